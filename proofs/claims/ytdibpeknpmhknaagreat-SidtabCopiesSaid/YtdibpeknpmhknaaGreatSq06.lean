/- Texts of this proof, part 6: see the card for what is proved. -/
import Derived.Test.YtdibpeknpmhknaaGreatSq00
import Derived.Lib.IndexMore
import Derived.Lib.Join
import Derived.Lib.Split
import Derived.Lib.IndexAny
import Derived.Lib.CountLaws
import Derived.Test.YtdibpeknpmhknaaGreatSq04
import Derived.Test.YtdibpeknpmhknaaGreatSq02
import Derived.KernelRfl
import Derived.Test.YtdibpeknpmhknaaGreatSq05
set_option linter.unusedVariables false
set_option maxRecDepth 100000
set_option linter.unusedSimpArgs false
set_option maxHeartbeats 4000000
namespace Go.Proofs.YtdibpeknpmhknaaGreat
open Go
def U7 : List (List Qa) → Option (List (List UInt8))
 | [] => some []
 | [.str s] :: es => (U7 es).map (s :: ·)
 | _ => none
def VX : List Qa → Option Qa
 | [.slice false _ 1 es, .str sep] => (U7 es).bind λxs=> if xs.length ≤ 140737488355328 ∧ (Lib.join xs sep).length ≤ 140737488355328 then some (.str (Lib.join xs sep)) else none
 | [.nils, .str _] => some (.str [])
 | _ => none
end Go.Proofs.YtdibpeknpmhknaaGreat
namespace Go.Proofs.YtdibpeknpmhknaaGreat
open Go
def table : List (Nat × JT) :=
 [(148, .prim VX), (3, .body 2 T3), (4, .body 1 T4), (5, .body 2 T5), (6, .body 3 T6), (7, .body 3 T7), (8, .body 1 T8), (9, .body 0 T9), (10, .body 1 T10), (11, .body 1 T11), (12, .body 3 T12), (13, .body 2 T13), (14, .body 3 T14), (15, .body 3 T15), (16, .body 2 T16), (17, .body 2 T17), (18, .body 2 T18), (19, .body 1 T19), (20, .body 1 T20), (21, .body 2 T21), (22, .body 2 T22), (23, .body 1 T23), (24, .body 1 T24), (25, .body 0 T25), (26, .body 0 T26), (27, .body 0 T27), (28, .body 1 T28), (29, .body 1 T29), (30, .body 3 T30), (31, .body 1 T31), (32, .body 3 T32), (33, .body 2 T33), (34, .body 1 T34), (35, .body 2 T35), (36, .body 2 T36), (37, .body 2 T37), (38, .body 2 T38), (39, .body 1 T39), (40, .body 3 T40), (41, .body 2 T41), (42, .body 2 T42), (43, .body 2 T43), (44, .body 2 T44), (45, .body 2 T45), (46, .body 2 T46), (47, .body 1 T47), (48, .body 1 T48), (49, .body 1 T49), (50, .body 1 T50), (51, .body 1 T51), (52, .body 1 T52), (53, .body 1 T53), (54, .body 1 T54), (55, .body 1 T55), (56, .body 1 T56), (57, .body 1 T57), (58, .body 1 T58), (59, .body 1 T59), (60, .body 1 T60), (61, .body 0 T61), (62, .body 2 T62), (63, .body 2 T63), (64, .body 1 T64), (65, .body 2 T65), (66, .body 2 T66), (67, .body 2 T67), (68, .body 2 T68), (69, .body 2 T69), (70, .body 3 T70), (71, .body 2 T71), (72, .body 3 T72), (73, .body 2 T73), (74, .body 3 T74), (75, .body 1 T75), (76, .body 2 T76), (77, .body 2 T77), (78, .body 3 T78), (79, .body 2 T79), (80, .body 2 T80), (81, .body 2 T81), (82, .body 2 T82), (83, .body 1 T83), (84, .body 2 T84), (85, .body 2 T85), (86, .body 2 T86), (87, .body 2 T87), (88, .body 2 T88), (89, .body 2 T89), (90, .body 3 T90), (91, .body 2 T91), (92, .body 2 T92), (93, .body 1 T93), (94, .body 3 T94), (95, .body 2 T95), (96, .body 1 T96), (97, .body 2 T97), (98, .body 1 T98), (99, .body 1 T99), (100, .body 1 T100), (101, .body 2 T101), (102, .body 3 T102), (103, .body 2 T103), (104, .body 2 T104), (105, .body 3 T105), (106, .body 2 T106), (107, .body 2 T107), (108, .body 2 T108), (109, .body 2 T109), (110, .body 3 T110), (111, .body 4 T111), (112, .body 3 T112), (113, .body 3 T113), (114, .body 2 T114), (115, .body 1 T115), (116, .body 3 T116), (117, .body 3 T117), (118, .body 1 T118), (119, .body 2 T119), (120, .body 2 T120), (121, .body 2 T121), (122, .body 2 T122), (123, .body 2 T123), (124, .body 3 T124), (125, .body 1 T125), (126, .body 1 T126), (127, .body 1 T127), (128, .body 2 T128), (129, .body 3 T129), (130, .body 2 T130), (131, .body 1 T131), (132, .body 3 T132), (133, .body 1 T133), (134, .body 2 T134), (135, .body 2 T135), (136, .body 2 T136), (137, .body 2 T137), (138, .body 2 T138), (139, .body 2 T139), (140, .body 2 T140), (141, .body 2 T141), (142, .body 2 T142), (143, .body 2 T143), (144, .body 2 T144), (145, .body 2 T145), (146, .body 2 T146), (147, .body 1 T147), (149, .body 1 T149), (150, .body 1 T150), (151, .body 1 T151), (152, .body 2 T152), (153, .body 2 T153), (154, .body 1 T154), (155, .body 1 T155), (156, .body 2 T156), (157, .body 2 T157), (158, .body 2 T158), (159, .body 2 T159), (160, .body 2 T160), (164, .body 1 T164), (165, .body 2 T165), (166, .body 1 T166), (169, .body 2 T169), (170, .body 1 T170), (171, .body 1 T171)]
def PR : Nat → Option JT := progJ table
theorem u3 (n : Nat) (x0 x1 : Qa) : cpJ PR (n + 1) 3 [x0, x1] = QB (D3 (cpJ PR n) (ciJ PR n) n x0 x1 Qd) := by kernel_rfl
theorem v3 (n : Nat) (x0 x1 : Qa) (σ : Sto) : ciJ PR (n + 1) 3 [x0, x1] σ = Xf (D3 (cpJ PR n) (ciJ PR n) n x0 x1 σ) := by kernel_rfl
theorem u4 (n : Nat) (x0 : Qa) : cpJ PR (n + 1) 4 [x0] = QB (D4 (cpJ PR n) (ciJ PR n) n x0 Qd) := by kernel_rfl
theorem v4 (n : Nat) (x0 : Qa) (σ : Sto) : ciJ PR (n + 1) 4 [x0] σ = Xf (D4 (cpJ PR n) (ciJ PR n) n x0 σ) := by kernel_rfl
theorem u5 (n : Nat) (x0 x1 : Qa) : cpJ PR (n + 1) 5 [x0, x1] = QB (D5 (cpJ PR n) (ciJ PR n) n x0 x1 Qd) := by kernel_rfl
theorem v5 (n : Nat) (x0 x1 : Qa) (σ : Sto) : ciJ PR (n + 1) 5 [x0, x1] σ = Xf (D5 (cpJ PR n) (ciJ PR n) n x0 x1 σ) := by kernel_rfl
theorem u6 (n : Nat) (x0 x1 x2 : Qa) : cpJ PR (n + 1) 6 [x0, x1, x2] = QB (D6 (cpJ PR n) (ciJ PR n) n x0 x1 x2 Qd) := by kernel_rfl
theorem u7 (n : Nat) (x0 x1 x2 : Qa) : cpJ PR (n + 1) 7 [x0, x1, x2] = QB (D7 (cpJ PR n) (ciJ PR n) n x0 x1 x2 Qd) := by kernel_rfl
theorem u8 (n : Nat) (x0 : Qa) : cpJ PR (n + 1) 8 [x0] = QB (D8 (cpJ PR n) (ciJ PR n) n x0 Qd) := by kernel_rfl
theorem u9 (n : Nat) : cpJ PR (n + 1) 9 [] = QB (D9 (cpJ PR n) (ciJ PR n) n  Qd) := by kernel_rfl
theorem v9 (n : Nat) (σ : Sto) : ciJ PR (n + 1) 9 [] σ = Xf (D9 (cpJ PR n) (ciJ PR n) n  σ) := by kernel_rfl
theorem v10 (n : Nat) (x0 : Qa) (σ : Sto) : ciJ PR (n + 1) 10 [x0] σ = Xf (D10 (cpJ PR n) (ciJ PR n) n x0 σ) := by kernel_rfl
theorem u11 (n : Nat) (x0 : Qa) : cpJ PR (n + 1) 11 [x0] = QB (D11 (cpJ PR n) (ciJ PR n) n x0 Qd) := by kernel_rfl
theorem v12 (n : Nat) (x0 x1 x2 : Qa) (σ : Sto) : ciJ PR (n + 1) 12 [x0, x1, x2] σ = Xf (D12 (cpJ PR n) (ciJ PR n) n x0 x1 x2 σ) := by kernel_rfl
theorem v13 (n : Nat) (x0 x1 : Qa) (σ : Sto) : ciJ PR (n + 1) 13 [x0, x1] σ = Xf (D13 (cpJ PR n) (ciJ PR n) n x0 x1 σ) := by kernel_rfl
theorem v14 (n : Nat) (x0 x1 x2 : Qa) (σ : Sto) : ciJ PR (n + 1) 14 [x0, x1, x2] σ = Xf (D14 (cpJ PR n) (ciJ PR n) n x0 x1 x2 σ) := by kernel_rfl
theorem u15 (n : Nat) (x0 x1 x2 : Qa) : cpJ PR (n + 1) 15 [x0, x1, x2] = QB (D15 (cpJ PR n) (ciJ PR n) n x0 x1 x2 Qd) := by kernel_rfl
theorem v16 (n : Nat) (x0 x1 : Qa) (σ : Sto) : ciJ PR (n + 1) 16 [x0, x1] σ = Xf (D16 (cpJ PR n) (ciJ PR n) n x0 x1 σ) := by kernel_rfl
theorem v17 (n : Nat) (x0 x1 : Qa) (σ : Sto) : ciJ PR (n + 1) 17 [x0, x1] σ = Xf (D17 (cpJ PR n) (ciJ PR n) n x0 x1 σ) := by kernel_rfl
theorem v18 (n : Nat) (x0 x1 : Qa) (σ : Sto) : ciJ PR (n + 1) 18 [x0, x1] σ = Xf (D18 (cpJ PR n) (ciJ PR n) n x0 x1 σ) := by kernel_rfl
theorem v19 (n : Nat) (x0 : Qa) (σ : Sto) : ciJ PR (n + 1) 19 [x0] σ = Xf (D19 (cpJ PR n) (ciJ PR n) n x0 σ) := by kernel_rfl
theorem v20 (n : Nat) (x0 : Qa) (σ : Sto) : ciJ PR (n + 1) 20 [x0] σ = Xf (D20 (cpJ PR n) (ciJ PR n) n x0 σ) := by kernel_rfl
theorem v21 (n : Nat) (x0 x1 : Qa) (σ : Sto) : ciJ PR (n + 1) 21 [x0, x1] σ = Xf (D21 (cpJ PR n) (ciJ PR n) n x0 x1 σ) := by kernel_rfl
theorem v22 (n : Nat) (x0 x1 : Qa) (σ : Sto) : ciJ PR (n + 1) 22 [x0, x1] σ = Xf (D22 (cpJ PR n) (ciJ PR n) n x0 x1 σ) := by kernel_rfl
theorem u23 (n : Nat) (x0 : Qa) : cpJ PR (n + 1) 23 [x0] = QB (D23 (cpJ PR n) (ciJ PR n) n x0 Qd) := by kernel_rfl
theorem u24 (n : Nat) (x0 : Qa) : cpJ PR (n + 1) 24 [x0] = QB (D24 (cpJ PR n) (ciJ PR n) n x0 Qd) := by kernel_rfl
theorem u25 (n : Nat) : cpJ PR (n + 1) 25 [] = QB (D25 (cpJ PR n) (ciJ PR n) n  Qd) := by kernel_rfl
theorem u26 (n : Nat) : cpJ PR (n + 1) 26 [] = QB (D26 (cpJ PR n) (ciJ PR n) n  Qd) := by kernel_rfl
theorem u27 (n : Nat) : cpJ PR (n + 1) 27 [] = QB (D27 (cpJ PR n) (ciJ PR n) n  Qd) := by kernel_rfl
theorem u28 (n : Nat) (x0 : Qa) : cpJ PR (n + 1) 28 [x0] = QB (D28 (cpJ PR n) (ciJ PR n) n x0 Qd) := by kernel_rfl
theorem v29 (n : Nat) (x0 : Qa) (σ : Sto) : ciJ PR (n + 1) 29 [x0] σ = Xf (D29 (cpJ PR n) (ciJ PR n) n x0 σ) := by kernel_rfl
theorem v30 (n : Nat) (x0 x1 x2 : Qa) (σ : Sto) : ciJ PR (n + 1) 30 [x0, x1, x2] σ = Xf (D30 (cpJ PR n) (ciJ PR n) n x0 x1 x2 σ) := by kernel_rfl
theorem u31 (n : Nat) (x0 : Qa) : cpJ PR (n + 1) 31 [x0] = QB (D31 (cpJ PR n) (ciJ PR n) n x0 Qd) := by kernel_rfl
theorem v31 (n : Nat) (x0 : Qa) (σ : Sto) : ciJ PR (n + 1) 31 [x0] σ = Xf (D31 (cpJ PR n) (ciJ PR n) n x0 σ) := by kernel_rfl
theorem u32 (n : Nat) (x0 x1 x2 : Qa) : cpJ PR (n + 1) 32 [x0, x1, x2] = QB (D32 (cpJ PR n) (ciJ PR n) n x0 x1 x2 Qd) := by kernel_rfl
theorem u33 (n : Nat) (x0 x1 : Qa) : cpJ PR (n + 1) 33 [x0, x1] = QB (D33 (cpJ PR n) (ciJ PR n) n x0 x1 Qd) := by kernel_rfl
theorem u34 (n : Nat) (x0 : Qa) : cpJ PR (n + 1) 34 [x0] = QB (D34 (cpJ PR n) (ciJ PR n) n x0 Qd) := by kernel_rfl
theorem u35 (n : Nat) (x0 x1 : Qa) : cpJ PR (n + 1) 35 [x0, x1] = QB (D35 (cpJ PR n) (ciJ PR n) n x0 x1 Qd) := by kernel_rfl
theorem u36 (n : Nat) (x0 x1 : Qa) : cpJ PR (n + 1) 36 [x0, x1] = QB (D36 (cpJ PR n) (ciJ PR n) n x0 x1 Qd) := by kernel_rfl
theorem u37 (n : Nat) (x0 x1 : Qa) : cpJ PR (n + 1) 37 [x0, x1] = QB (D37 (cpJ PR n) (ciJ PR n) n x0 x1 Qd) := by kernel_rfl
theorem v37 (n : Nat) (x0 x1 : Qa) (σ : Sto) : ciJ PR (n + 1) 37 [x0, x1] σ = Xf (D37 (cpJ PR n) (ciJ PR n) n x0 x1 σ) := by kernel_rfl
theorem u38 (n : Nat) (x0 x1 : Qa) : cpJ PR (n + 1) 38 [x0, x1] = QB (D38 (cpJ PR n) (ciJ PR n) n x0 x1 Qd) := by kernel_rfl
theorem v39 (n : Nat) (x0 : Qa) (σ : Sto) : ciJ PR (n + 1) 39 [x0] σ = Xf (D39 (cpJ PR n) (ciJ PR n) n x0 σ) := by kernel_rfl
theorem v40 (n : Nat) (x0 x1 x2 : Qa) (σ : Sto) : ciJ PR (n + 1) 40 [x0, x1, x2] σ = Xf (D40 (cpJ PR n) (ciJ PR n) n x0 x1 x2 σ) := by kernel_rfl
theorem v41 (n : Nat) (x0 x1 : Qa) (σ : Sto) : ciJ PR (n + 1) 41 [x0, x1] σ = Xf (D41 (cpJ PR n) (ciJ PR n) n x0 x1 σ) := by kernel_rfl
theorem u42 (n : Nat) (x0 x1 : Qa) : cpJ PR (n + 1) 42 [x0, x1] = QB (D42 (cpJ PR n) (ciJ PR n) n x0 x1 Qd) := by kernel_rfl
theorem u43 (n : Nat) (x0 x1 : Qa) : cpJ PR (n + 1) 43 [x0, x1] = QB (D43 (cpJ PR n) (ciJ PR n) n x0 x1 Qd) := by kernel_rfl
theorem u44 (n : Nat) (x0 x1 : Qa) : cpJ PR (n + 1) 44 [x0, x1] = QB (D44 (cpJ PR n) (ciJ PR n) n x0 x1 Qd) := by kernel_rfl
theorem v45 (n : Nat) (x0 x1 : Qa) (σ : Sto) : ciJ PR (n + 1) 45 [x0, x1] σ = Xf (D45 (cpJ PR n) (ciJ PR n) n x0 x1 σ) := by kernel_rfl
theorem u46 (n : Nat) (x0 x1 : Qa) : cpJ PR (n + 1) 46 [x0, x1] = QB (D46 (cpJ PR n) (ciJ PR n) n x0 x1 Qd) := by kernel_rfl
theorem u47 (n : Nat) (x0 : Qa) : cpJ PR (n + 1) 47 [x0] = QB (D47 (cpJ PR n) (ciJ PR n) n x0 Qd) := by kernel_rfl
theorem u48 (n : Nat) (x0 : Qa) : cpJ PR (n + 1) 48 [x0] = QB (D48 (cpJ PR n) (ciJ PR n) n x0 Qd) := by kernel_rfl
theorem u49 (n : Nat) (x0 : Qa) : cpJ PR (n + 1) 49 [x0] = QB (D49 (cpJ PR n) (ciJ PR n) n x0 Qd) := by kernel_rfl
theorem u50 (n : Nat) (x0 : Qa) : cpJ PR (n + 1) 50 [x0] = QB (D50 (cpJ PR n) (ciJ PR n) n x0 Qd) := by kernel_rfl
theorem u51 (n : Nat) (x0 : Qa) : cpJ PR (n + 1) 51 [x0] = QB (D51 (cpJ PR n) (ciJ PR n) n x0 Qd) := by kernel_rfl
theorem u52 (n : Nat) (x0 : Qa) : cpJ PR (n + 1) 52 [x0] = QB (D52 (cpJ PR n) (ciJ PR n) n x0 Qd) := by kernel_rfl
theorem u53 (n : Nat) (x0 : Qa) : cpJ PR (n + 1) 53 [x0] = QB (D53 (cpJ PR n) (ciJ PR n) n x0 Qd) := by kernel_rfl
theorem u54 (n : Nat) (x0 : Qa) : cpJ PR (n + 1) 54 [x0] = QB (D54 (cpJ PR n) (ciJ PR n) n x0 Qd) := by kernel_rfl
theorem u55 (n : Nat) (x0 : Qa) : cpJ PR (n + 1) 55 [x0] = QB (D55 (cpJ PR n) (ciJ PR n) n x0 Qd) := by kernel_rfl
theorem u56 (n : Nat) (x0 : Qa) : cpJ PR (n + 1) 56 [x0] = QB (D56 (cpJ PR n) (ciJ PR n) n x0 Qd) := by kernel_rfl
theorem u57 (n : Nat) (x0 : Qa) : cpJ PR (n + 1) 57 [x0] = QB (D57 (cpJ PR n) (ciJ PR n) n x0 Qd) := by kernel_rfl
theorem u58 (n : Nat) (x0 : Qa) : cpJ PR (n + 1) 58 [x0] = QB (D58 (cpJ PR n) (ciJ PR n) n x0 Qd) := by kernel_rfl
theorem u59 (n : Nat) (x0 : Qa) : cpJ PR (n + 1) 59 [x0] = QB (D59 (cpJ PR n) (ciJ PR n) n x0 Qd) := by kernel_rfl
theorem u60 (n : Nat) (x0 : Qa) : cpJ PR (n + 1) 60 [x0] = QB (D60 (cpJ PR n) (ciJ PR n) n x0 Qd) := by kernel_rfl
theorem u61 (n : Nat) : cpJ PR (n + 1) 61 [] = QB (D61 (cpJ PR n) (ciJ PR n) n  Qd) := by kernel_rfl
theorem v62 (n : Nat) (x0 x1 : Qa) (σ : Sto) : ciJ PR (n + 1) 62 [x0, x1] σ = Xf (D62 (cpJ PR n) (ciJ PR n) n x0 x1 σ) := by kernel_rfl
theorem v63 (n : Nat) (x0 x1 : Qa) (σ : Sto) : ciJ PR (n + 1) 63 [x0, x1] σ = Xf (D63 (cpJ PR n) (ciJ PR n) n x0 x1 σ) := by kernel_rfl
theorem u64 (n : Nat) (x0 : Qa) : cpJ PR (n + 1) 64 [x0] = QB (D64 (cpJ PR n) (ciJ PR n) n x0 Qd) := by kernel_rfl
theorem v64 (n : Nat) (x0 : Qa) (σ : Sto) : ciJ PR (n + 1) 64 [x0] σ = Xf (D64 (cpJ PR n) (ciJ PR n) n x0 σ) := by kernel_rfl
theorem u65 (n : Nat) (x0 x1 : Qa) : cpJ PR (n + 1) 65 [x0, x1] = QB (D65 (cpJ PR n) (ciJ PR n) n x0 x1 Qd) := by kernel_rfl
theorem u66 (n : Nat) (x0 x1 : Qa) : cpJ PR (n + 1) 66 [x0, x1] = QB (D66 (cpJ PR n) (ciJ PR n) n x0 x1 Qd) := by kernel_rfl
theorem u67 (n : Nat) (x0 x1 : Qa) : cpJ PR (n + 1) 67 [x0, x1] = QB (D67 (cpJ PR n) (ciJ PR n) n x0 x1 Qd) := by kernel_rfl
theorem u68 (n : Nat) (x0 x1 : Qa) : cpJ PR (n + 1) 68 [x0, x1] = QB (D68 (cpJ PR n) (ciJ PR n) n x0 x1 Qd) := by kernel_rfl
theorem u69 (n : Nat) (x0 x1 : Qa) : cpJ PR (n + 1) 69 [x0, x1] = QB (D69 (cpJ PR n) (ciJ PR n) n x0 x1 Qd) := by kernel_rfl
theorem u70 (n : Nat) (x0 x1 x2 : Qa) : cpJ PR (n + 1) 70 [x0, x1, x2] = QB (D70 (cpJ PR n) (ciJ PR n) n x0 x1 x2 Qd) := by kernel_rfl
theorem v70 (n : Nat) (x0 x1 x2 : Qa) (σ : Sto) : ciJ PR (n + 1) 70 [x0, x1, x2] σ = Xf (D70 (cpJ PR n) (ciJ PR n) n x0 x1 x2 σ) := by kernel_rfl
theorem u71 (n : Nat) (x0 x1 : Qa) : cpJ PR (n + 1) 71 [x0, x1] = QB (D71 (cpJ PR n) (ciJ PR n) n x0 x1 Qd) := by kernel_rfl
theorem u72 (n : Nat) (x0 x1 x2 : Qa) : cpJ PR (n + 1) 72 [x0, x1, x2] = QB (D72 (cpJ PR n) (ciJ PR n) n x0 x1 x2 Qd) := by kernel_rfl
theorem v72 (n : Nat) (x0 x1 x2 : Qa) (σ : Sto) : ciJ PR (n + 1) 72 [x0, x1, x2] σ = Xf (D72 (cpJ PR n) (ciJ PR n) n x0 x1 x2 σ) := by kernel_rfl
theorem u73 (n : Nat) (x0 x1 : Qa) : cpJ PR (n + 1) 73 [x0, x1] = QB (D73 (cpJ PR n) (ciJ PR n) n x0 x1 Qd) := by kernel_rfl
theorem u74 (n : Nat) (x0 x1 x2 : Qa) : cpJ PR (n + 1) 74 [x0, x1, x2] = QB (D74 (cpJ PR n) (ciJ PR n) n x0 x1 x2 Qd) := by kernel_rfl
theorem u75 (n : Nat) (x0 : Qa) : cpJ PR (n + 1) 75 [x0] = QB (D75 (cpJ PR n) (ciJ PR n) n x0 Qd) := by kernel_rfl
theorem v75 (n : Nat) (x0 : Qa) (σ : Sto) : ciJ PR (n + 1) 75 [x0] σ = Xf (D75 (cpJ PR n) (ciJ PR n) n x0 σ) := by kernel_rfl
theorem u76 (n : Nat) (x0 x1 : Qa) : cpJ PR (n + 1) 76 [x0, x1] = QB (D76 (cpJ PR n) (ciJ PR n) n x0 x1 Qd) := by kernel_rfl
theorem v76 (n : Nat) (x0 x1 : Qa) (σ : Sto) : ciJ PR (n + 1) 76 [x0, x1] σ = Xf (D76 (cpJ PR n) (ciJ PR n) n x0 x1 σ) := by kernel_rfl
theorem u77 (n : Nat) (x0 x1 : Qa) : cpJ PR (n + 1) 77 [x0, x1] = QB (D77 (cpJ PR n) (ciJ PR n) n x0 x1 Qd) := by kernel_rfl
theorem u78 (n : Nat) (x0 x1 x2 : Qa) : cpJ PR (n + 1) 78 [x0, x1, x2] = QB (D78 (cpJ PR n) (ciJ PR n) n x0 x1 x2 Qd) := by kernel_rfl
theorem u79 (n : Nat) (x0 x1 : Qa) : cpJ PR (n + 1) 79 [x0, x1] = QB (D79 (cpJ PR n) (ciJ PR n) n x0 x1 Qd) := by kernel_rfl
theorem u80 (n : Nat) (x0 x1 : Qa) : cpJ PR (n + 1) 80 [x0, x1] = QB (D80 (cpJ PR n) (ciJ PR n) n x0 x1 Qd) := by kernel_rfl
theorem u81 (n : Nat) (x0 x1 : Qa) : cpJ PR (n + 1) 81 [x0, x1] = QB (D81 (cpJ PR n) (ciJ PR n) n x0 x1 Qd) := by kernel_rfl
theorem u82 (n : Nat) (x0 x1 : Qa) : cpJ PR (n + 1) 82 [x0, x1] = QB (D82 (cpJ PR n) (ciJ PR n) n x0 x1 Qd) := by kernel_rfl
theorem u83 (n : Nat) (x0 : Qa) : cpJ PR (n + 1) 83 [x0] = QB (D83 (cpJ PR n) (ciJ PR n) n x0 Qd) := by kernel_rfl
theorem u84 (n : Nat) (x0 x1 : Qa) : cpJ PR (n + 1) 84 [x0, x1] = QB (D84 (cpJ PR n) (ciJ PR n) n x0 x1 Qd) := by kernel_rfl
theorem u85 (n : Nat) (x0 x1 : Qa) : cpJ PR (n + 1) 85 [x0, x1] = QB (D85 (cpJ PR n) (ciJ PR n) n x0 x1 Qd) := by kernel_rfl
theorem u86 (n : Nat) (x0 x1 : Qa) : cpJ PR (n + 1) 86 [x0, x1] = QB (D86 (cpJ PR n) (ciJ PR n) n x0 x1 Qd) := by kernel_rfl
theorem u87 (n : Nat) (x0 x1 : Qa) : cpJ PR (n + 1) 87 [x0, x1] = QB (D87 (cpJ PR n) (ciJ PR n) n x0 x1 Qd) := by kernel_rfl
theorem u88 (n : Nat) (x0 x1 : Qa) : cpJ PR (n + 1) 88 [x0, x1] = QB (D88 (cpJ PR n) (ciJ PR n) n x0 x1 Qd) := by kernel_rfl
theorem u89 (n : Nat) (x0 x1 : Qa) : cpJ PR (n + 1) 89 [x0, x1] = QB (D89 (cpJ PR n) (ciJ PR n) n x0 x1 Qd) := by kernel_rfl
theorem u90 (n : Nat) (x0 x1 x2 : Qa) : cpJ PR (n + 1) 90 [x0, x1, x2] = QB (D90 (cpJ PR n) (ciJ PR n) n x0 x1 x2 Qd) := by kernel_rfl
theorem u91 (n : Nat) (x0 x1 : Qa) : cpJ PR (n + 1) 91 [x0, x1] = QB (D91 (cpJ PR n) (ciJ PR n) n x0 x1 Qd) := by kernel_rfl
theorem u92 (n : Nat) (x0 x1 : Qa) : cpJ PR (n + 1) 92 [x0, x1] = QB (D92 (cpJ PR n) (ciJ PR n) n x0 x1 Qd) := by kernel_rfl
theorem u93 (n : Nat) (x0 : Qa) : cpJ PR (n + 1) 93 [x0] = QB (D93 (cpJ PR n) (ciJ PR n) n x0 Qd) := by kernel_rfl
theorem u94 (n : Nat) (x0 x1 x2 : Qa) : cpJ PR (n + 1) 94 [x0, x1, x2] = QB (D94 (cpJ PR n) (ciJ PR n) n x0 x1 x2 Qd) := by kernel_rfl
theorem u95 (n : Nat) (x0 x1 : Qa) : cpJ PR (n + 1) 95 [x0, x1] = QB (D95 (cpJ PR n) (ciJ PR n) n x0 x1 Qd) := by kernel_rfl
theorem u96 (n : Nat) (x0 : Qa) : cpJ PR (n + 1) 96 [x0] = QB (D96 (cpJ PR n) (ciJ PR n) n x0 Qd) := by kernel_rfl
theorem v97 (n : Nat) (x0 x1 : Qa) (σ : Sto) : ciJ PR (n + 1) 97 [x0, x1] σ = Xf (D97 (cpJ PR n) (ciJ PR n) n x0 x1 σ) := by kernel_rfl
theorem u98 (n : Nat) (x0 : Qa) : cpJ PR (n + 1) 98 [x0] = QB (D98 (cpJ PR n) (ciJ PR n) n x0 Qd) := by kernel_rfl
theorem u99 (n : Nat) (x0 : Qa) : cpJ PR (n + 1) 99 [x0] = QB (D99 (cpJ PR n) (ciJ PR n) n x0 Qd) := by kernel_rfl
theorem u100 (n : Nat) (x0 : Qa) : cpJ PR (n + 1) 100 [x0] = QB (D100 (cpJ PR n) (ciJ PR n) n x0 Qd) := by kernel_rfl
theorem u101 (n : Nat) (x0 x1 : Qa) : cpJ PR (n + 1) 101 [x0, x1] = QB (D101 (cpJ PR n) (ciJ PR n) n x0 x1 Qd) := by kernel_rfl
theorem u102 (n : Nat) (x0 x1 x2 : Qa) : cpJ PR (n + 1) 102 [x0, x1, x2] = QB (D102 (cpJ PR n) (ciJ PR n) n x0 x1 x2 Qd) := by kernel_rfl
theorem u103 (n : Nat) (x0 x1 : Qa) : cpJ PR (n + 1) 103 [x0, x1] = QB (D103 (cpJ PR n) (ciJ PR n) n x0 x1 Qd) := by kernel_rfl
theorem u104 (n : Nat) (x0 x1 : Qa) : cpJ PR (n + 1) 104 [x0, x1] = QB (D104 (cpJ PR n) (ciJ PR n) n x0 x1 Qd) := by kernel_rfl
theorem u105 (n : Nat) (x0 x1 x2 : Qa) : cpJ PR (n + 1) 105 [x0, x1, x2] = QB (D105 (cpJ PR n) (ciJ PR n) n x0 x1 x2 Qd) := by kernel_rfl
theorem u106 (n : Nat) (x0 x1 : Qa) : cpJ PR (n + 1) 106 [x0, x1] = QB (D106 (cpJ PR n) (ciJ PR n) n x0 x1 Qd) := by kernel_rfl
theorem u107 (n : Nat) (x0 x1 : Qa) : cpJ PR (n + 1) 107 [x0, x1] = QB (D107 (cpJ PR n) (ciJ PR n) n x0 x1 Qd) := by kernel_rfl
theorem u108 (n : Nat) (x0 x1 : Qa) : cpJ PR (n + 1) 108 [x0, x1] = QB (D108 (cpJ PR n) (ciJ PR n) n x0 x1 Qd) := by kernel_rfl
theorem u109 (n : Nat) (x0 x1 : Qa) : cpJ PR (n + 1) 109 [x0, x1] = QB (D109 (cpJ PR n) (ciJ PR n) n x0 x1 Qd) := by kernel_rfl
theorem u110 (n : Nat) (x0 x1 x2 : Qa) : cpJ PR (n + 1) 110 [x0, x1, x2] = QB (D110 (cpJ PR n) (ciJ PR n) n x0 x1 x2 Qd) := by kernel_rfl
theorem u111 (n : Nat) (x0 x1 x2 x3 : Qa) : cpJ PR (n + 1) 111 [x0, x1, x2, x3] = QB (D111 (cpJ PR n) (ciJ PR n) n x0 x1 x2 x3 Qd) := by kernel_rfl
theorem u112 (n : Nat) (x0 x1 x2 : Qa) : cpJ PR (n + 1) 112 [x0, x1, x2] = QB (D112 (cpJ PR n) (ciJ PR n) n x0 x1 x2 Qd) := by kernel_rfl
theorem u113 (n : Nat) (x0 x1 x2 : Qa) : cpJ PR (n + 1) 113 [x0, x1, x2] = QB (D113 (cpJ PR n) (ciJ PR n) n x0 x1 x2 Qd) := by kernel_rfl
theorem u114 (n : Nat) (x0 x1 : Qa) : cpJ PR (n + 1) 114 [x0, x1] = QB (D114 (cpJ PR n) (ciJ PR n) n x0 x1 Qd) := by kernel_rfl
theorem u115 (n : Nat) (x0 : Qa) : cpJ PR (n + 1) 115 [x0] = QB (D115 (cpJ PR n) (ciJ PR n) n x0 Qd) := by kernel_rfl
theorem u116 (n : Nat) (x0 x1 x2 : Qa) : cpJ PR (n + 1) 116 [x0, x1, x2] = QB (D116 (cpJ PR n) (ciJ PR n) n x0 x1 x2 Qd) := by kernel_rfl
theorem u117 (n : Nat) (x0 x1 x2 : Qa) : cpJ PR (n + 1) 117 [x0, x1, x2] = QB (D117 (cpJ PR n) (ciJ PR n) n x0 x1 x2 Qd) := by kernel_rfl
theorem u118 (n : Nat) (x0 : Qa) : cpJ PR (n + 1) 118 [x0] = QB (D118 (cpJ PR n) (ciJ PR n) n x0 Qd) := by kernel_rfl
theorem u119 (n : Nat) (x0 x1 : Qa) : cpJ PR (n + 1) 119 [x0, x1] = QB (D119 (cpJ PR n) (ciJ PR n) n x0 x1 Qd) := by kernel_rfl
theorem u120 (n : Nat) (x0 x1 : Qa) : cpJ PR (n + 1) 120 [x0, x1] = QB (D120 (cpJ PR n) (ciJ PR n) n x0 x1 Qd) := by kernel_rfl
theorem u121 (n : Nat) (x0 x1 : Qa) : cpJ PR (n + 1) 121 [x0, x1] = QB (D121 (cpJ PR n) (ciJ PR n) n x0 x1 Qd) := by kernel_rfl
theorem u122 (n : Nat) (x0 x1 : Qa) : cpJ PR (n + 1) 122 [x0, x1] = QB (D122 (cpJ PR n) (ciJ PR n) n x0 x1 Qd) := by kernel_rfl
theorem u123 (n : Nat) (x0 x1 : Qa) : cpJ PR (n + 1) 123 [x0, x1] = QB (D123 (cpJ PR n) (ciJ PR n) n x0 x1 Qd) := by kernel_rfl
theorem u124 (n : Nat) (x0 x1 x2 : Qa) : cpJ PR (n + 1) 124 [x0, x1, x2] = QB (D124 (cpJ PR n) (ciJ PR n) n x0 x1 x2 Qd) := by kernel_rfl
theorem u125 (n : Nat) (x0 : Qa) : cpJ PR (n + 1) 125 [x0] = QB (D125 (cpJ PR n) (ciJ PR n) n x0 Qd) := by kernel_rfl
theorem u127 (n : Nat) (x0 : Qa) : cpJ PR (n + 1) 127 [x0] = QB (D127 (cpJ PR n) (ciJ PR n) n x0 Qd) := by kernel_rfl
theorem v127 (n : Nat) (x0 : Qa) (σ : Sto) : ciJ PR (n + 1) 127 [x0] σ = Xf (D127 (cpJ PR n) (ciJ PR n) n x0 σ) := by kernel_rfl
theorem u128 (n : Nat) (x0 x1 : Qa) : cpJ PR (n + 1) 128 [x0, x1] = QB (D128 (cpJ PR n) (ciJ PR n) n x0 x1 Qd) := by kernel_rfl
theorem u129 (n : Nat) (x0 x1 x2 : Qa) : cpJ PR (n + 1) 129 [x0, x1, x2] = QB (D129 (cpJ PR n) (ciJ PR n) n x0 x1 x2 Qd) := by kernel_rfl
theorem u130 (n : Nat) (x0 x1 : Qa) : cpJ PR (n + 1) 130 [x0, x1] = QB (D130 (cpJ PR n) (ciJ PR n) n x0 x1 Qd) := by kernel_rfl
theorem u131 (n : Nat) (x0 : Qa) : cpJ PR (n + 1) 131 [x0] = QB (D131 (cpJ PR n) (ciJ PR n) n x0 Qd) := by kernel_rfl
theorem u132 (n : Nat) (x0 x1 x2 : Qa) : cpJ PR (n + 1) 132 [x0, x1, x2] = QB (D132 (cpJ PR n) (ciJ PR n) n x0 x1 x2 Qd) := by kernel_rfl
theorem u133 (n : Nat) (x0 : Qa) : cpJ PR (n + 1) 133 [x0] = QB (D133 (cpJ PR n) (ciJ PR n) n x0 Qd) := by kernel_rfl
theorem v134 (n : Nat) (x0 x1 : Qa) (σ : Sto) : ciJ PR (n + 1) 134 [x0, x1] σ = Xf (D134 (cpJ PR n) (ciJ PR n) n x0 x1 σ) := by kernel_rfl
theorem v135 (n : Nat) (x0 x1 : Qa) (σ : Sto) : ciJ PR (n + 1) 135 [x0, x1] σ = Xf (D135 (cpJ PR n) (ciJ PR n) n x0 x1 σ) := by kernel_rfl
theorem v136 (n : Nat) (x0 x1 : Qa) (σ : Sto) : ciJ PR (n + 1) 136 [x0, x1] σ = Xf (D136 (cpJ PR n) (ciJ PR n) n x0 x1 σ) := by kernel_rfl
theorem v137 (n : Nat) (x0 x1 : Qa) (σ : Sto) : ciJ PR (n + 1) 137 [x0, x1] σ = Xf (D137 (cpJ PR n) (ciJ PR n) n x0 x1 σ) := by kernel_rfl
theorem v138 (n : Nat) (x0 x1 : Qa) (σ : Sto) : ciJ PR (n + 1) 138 [x0, x1] σ = Xf (D138 (cpJ PR n) (ciJ PR n) n x0 x1 σ) := by kernel_rfl
theorem v139 (n : Nat) (x0 x1 : Qa) (σ : Sto) : ciJ PR (n + 1) 139 [x0, x1] σ = Xf (D139 (cpJ PR n) (ciJ PR n) n x0 x1 σ) := by kernel_rfl
theorem u140 (n : Nat) (x0 x1 : Qa) : cpJ PR (n + 1) 140 [x0, x1] = QB (D140 (cpJ PR n) (ciJ PR n) n x0 x1 Qd) := by kernel_rfl
theorem u141 (n : Nat) (x0 x1 : Qa) : cpJ PR (n + 1) 141 [x0, x1] = QB (D141 (cpJ PR n) (ciJ PR n) n x0 x1 Qd) := by kernel_rfl
theorem u142 (n : Nat) (x0 x1 : Qa) : cpJ PR (n + 1) 142 [x0, x1] = QB (D142 (cpJ PR n) (ciJ PR n) n x0 x1 Qd) := by kernel_rfl
theorem u143 (n : Nat) (x0 x1 : Qa) : cpJ PR (n + 1) 143 [x0, x1] = QB (D143 (cpJ PR n) (ciJ PR n) n x0 x1 Qd) := by kernel_rfl
theorem u144 (n : Nat) (x0 x1 : Qa) : cpJ PR (n + 1) 144 [x0, x1] = QB (D144 (cpJ PR n) (ciJ PR n) n x0 x1 Qd) := by kernel_rfl
theorem u145 (n : Nat) (x0 x1 : Qa) : cpJ PR (n + 1) 145 [x0, x1] = QB (D145 (cpJ PR n) (ciJ PR n) n x0 x1 Qd) := by kernel_rfl
theorem u146 (n : Nat) (x0 x1 : Qa) : cpJ PR (n + 1) 146 [x0, x1] = QB (D146 (cpJ PR n) (ciJ PR n) n x0 x1 Qd) := by kernel_rfl
theorem u147 (n : Nat) (x0 : Qa) : cpJ PR (n + 1) 147 [x0] = QB (D147 (cpJ PR n) (ciJ PR n) n x0 Qd) := by kernel_rfl
theorem u149 (n : Nat) (x0 : Qa) : cpJ PR (n + 1) 149 [x0] = QB (D149 (cpJ PR n) (ciJ PR n) n x0 Qd) := by kernel_rfl
theorem u150 (n : Nat) (x0 : Qa) : cpJ PR (n + 1) 150 [x0] = QB (D150 (cpJ PR n) (ciJ PR n) n x0 Qd) := by kernel_rfl
theorem u151 (n : Nat) (x0 : Qa) : cpJ PR (n + 1) 151 [x0] = QB (D151 (cpJ PR n) (ciJ PR n) n x0 Qd) := by kernel_rfl
theorem u152 (n : Nat) (x0 x1 : Qa) : cpJ PR (n + 1) 152 [x0, x1] = QB (D152 (cpJ PR n) (ciJ PR n) n x0 x1 Qd) := by kernel_rfl
theorem u153 (n : Nat) (x0 x1 : Qa) : cpJ PR (n + 1) 153 [x0, x1] = QB (D153 (cpJ PR n) (ciJ PR n) n x0 x1 Qd) := by kernel_rfl
theorem u154 (n : Nat) (x0 : Qa) : cpJ PR (n + 1) 154 [x0] = QB (D154 (cpJ PR n) (ciJ PR n) n x0 Qd) := by kernel_rfl
theorem u155 (n : Nat) (x0 : Qa) : cpJ PR (n + 1) 155 [x0] = QB (D155 (cpJ PR n) (ciJ PR n) n x0 Qd) := by kernel_rfl
theorem u156 (n : Nat) (x0 x1 : Qa) : cpJ PR (n + 1) 156 [x0, x1] = QB (D156 (cpJ PR n) (ciJ PR n) n x0 x1 Qd) := by kernel_rfl
theorem u157 (n : Nat) (x0 x1 : Qa) : cpJ PR (n + 1) 157 [x0, x1] = QB (D157 (cpJ PR n) (ciJ PR n) n x0 x1 Qd) := by kernel_rfl
theorem u158 (n : Nat) (x0 x1 : Qa) : cpJ PR (n + 1) 158 [x0, x1] = QB (D158 (cpJ PR n) (ciJ PR n) n x0 x1 Qd) := by kernel_rfl
theorem u159 (n : Nat) (x0 x1 : Qa) : cpJ PR (n + 1) 159 [x0, x1] = QB (D159 (cpJ PR n) (ciJ PR n) n x0 x1 Qd) := by kernel_rfl
theorem u160 (n : Nat) (x0 x1 : Qa) : cpJ PR (n + 1) 160 [x0, x1] = QB (D160 (cpJ PR n) (ciJ PR n) n x0 x1 Qd) := by kernel_rfl
theorem u164 (n : Nat) (x0 : Qa) : cpJ PR (n + 1) 164 [x0] = QB (D164 (cpJ PR n) (ciJ PR n) n x0 Qd) := by kernel_rfl
theorem v164 (n : Nat) (x0 : Qa) (σ : Sto) : ciJ PR (n + 1) 164 [x0] σ = Xf (D164 (cpJ PR n) (ciJ PR n) n x0 σ) := by kernel_rfl
theorem u165 (n : Nat) (x0 x1 : Qa) : cpJ PR (n + 1) 165 [x0, x1] = QB (D165 (cpJ PR n) (ciJ PR n) n x0 x1 Qd) := by kernel_rfl
theorem u166 (n : Nat) (x0 : Qa) : cpJ PR (n + 1) 166 [x0] = QB (D166 (cpJ PR n) (ciJ PR n) n x0 Qd) := by kernel_rfl
theorem u169 (n : Nat) (x0 x1 : Qa) : cpJ PR (n + 1) 169 [x0, x1] = QB (D169 (cpJ PR n) (ciJ PR n) n x0 x1 Qd) := by kernel_rfl
theorem u170 (n : Nat) (x0 : Qa) : cpJ PR (n + 1) 170 [x0] = QB (D170 (cpJ PR n) (ciJ PR n) n x0 Qd) := by kernel_rfl
theorem u171 (n : Nat) (x0 : Qa) : cpJ PR (n + 1) 171 [x0] = QB (D171 (cpJ PR n) (ciJ PR n) n x0 Qd) := by kernel_rfl
end Go.Proofs.YtdibpeknpmhknaaGreat
namespace Go.Proofs.YtdibpeknpmhknaaGreat
open Go
abbrev lv (s : Int) (c : Nat) : Qa := .agg [.int .i64 s, .int .u64 c]
abbrev rg (s : Int) (c : Nat) (s' : Int) (c' : Nat) : Qa := .agg [.int .i64 s, .int .u64 c, .int .i64 s', .int .u64 c']
theorem shr_nat (c : Nat) (k : Nat) : ((c : Int).fdiv (2 ^ k)) = ((c >>> k : Nat) : Int) := by
 rw [Nat.shiftRight_eq_div_pow, Int.fdiv_eq_ediv_of_nonneg _ (by exact Int.le_of_lt (Int.pow_pos (by decide)))]
 simp
theorem and_nat (a b : Nat) (ha : a < 18446744073709551616) (hb : b < 18446744073709551616) : intBits .and .u64 (a : Int) (b : Int) = ((a &&& b : Nat) : Int) := by
 have h : (BitVec.ofInt IntKind.u64.bits (a : Int) &&& BitVec.ofInt IntKind.u64.bits (b : Int)).toNat = a &&& b := by
  rw [BitVec.toNat_and]
  simp -implicitDefEqProofs [BitVec.toNat_ofInt, IntKind.bits]
  rw [Nat.mod_eq_of_lt ha, Nat.mod_eq_of_lt hb]
 simp only [intBits, h]
 exact WG (by omega) (by have := @Nat.and_le_left a b; omega)
theorem or_lt {a b : Nat} (ha : a < 18446744073709551616) (hb : b < 18446744073709551616) : a ||| b < 18446744073709551616 := Nat.or_lt_two_pow (n := 64) ha hb
theorem or_nat (a b : Nat) (ha : a < 18446744073709551616) (hb : b < 18446744073709551616) : intBits .or .u64 (a : Int) (b : Int) = ((a ||| b : Nat) : Int) := by
 have h : (BitVec.ofInt IntKind.u64.bits (a : Int) ||| BitVec.ofInt IntKind.u64.bits (b : Int)).toNat = a ||| b := by
  rw [BitVec.toNat_or]
  simp -implicitDefEqProofs [BitVec.toNat_ofInt, IntKind.bits]
  rw [Nat.mod_eq_of_lt ha, Nat.mod_eq_of_lt hb]
 simp only [intBits, h]
 exact WG (by omega) (by have := or_lt ha hb; omega)
def hasC (c : Nat) (k : Int) : Bool := decide (0 ≤ k) && decide (k < 64) && c.testBit k.toNat
theorem shift_one (c : Nat) (k : Nat) : decide ((((c >>> k) &&& 1 : Nat) : Int) = 1) = c.testBit k := by
 rw [Nat.testBit, Nat.and_comm]
 have h : (1 &&& c >>> k) = 0 ∨ (1 &&& c >>> k) = 1 := by
  rw [Nat.and_comm, Nat.and_one_is_mod]
  omega
 rcases h with h | h <;> rw [h] <;> rfl
theorem shr_lt {c : Nat} (hc : c < 18446744073709551616) (k : Nat) : c >>> k < 18446744073709551616 := by
 have : c >>> k ≤ c := by rw [Nat.shiftRight_eq_div_pow]; exact Nat.div_le_self _ _
 omega
theorem G0 (c : Nat) (hc : c < 18446744073709551616) (j : Nat) : intBits .and .u64 ((c : Int).fdiv (2 ^ j)) 1 = if c.testBit j then 1 else 0 := by
 have hand := and_nat (c >>> j) 1 (shr_lt hc j) (by decide)
 simp only [Int.natCast_one] at hand
 rw [shr_nat, hand]
 have := shift_one c j
 rw [Nat.and_one_is_mod] at this ⊢
 cases hb : c.testBit j <;> rw [hb] at this <;> simp at this ⊢ <;> omega
theorem hasC_lt (c : Nat) (k : Nat) (h : k < 64) : hasC c k = c.testBit k := by unfold hasC; simp; omega
theorem e156 {n : Nat} (hn : 1 ≤ n) (s : Int) (c : Nat) (hc : c < 18446744073709551616) (k : Int) : cpJ PR n 156 [lv s c, .int .i64 k] = some (.bool (hasC c k)) := by
 obtain ⟨n, rfl⟩ : ∃ m, n = m + 1 := ⟨n - 1, by omega⟩
 rw [u156]
 unfold hasC
 by_cases h0 : 0 ≤ k
 ·by_cases h1 : k < 64
  ·have hk : IntKind.u64.wrap k = k := WG h0 (by omega)
   obtain ⟨j, rfl⟩ : ∃ j : Nat, k = j := ⟨k.toNat, by omega⟩
   have hj : ¬ ((j : Int) < 0) := by omega
   have hmin : min j 64 = j := by omega
   have hb := G0 c hc j
   simp only [D156, h0, h1]
   cases ht : c.testBit j <;> rw [ht] at hb <;> simp -implicitDefEqProofs [h0, h1, hk, hj, hmin, IntKind.bits, hb, ht, -Int.natCast_pow]
  ·simp -implicitDefEqProofs [D156, h0, h1]
 ·simp -implicitDefEqProofs [D156, h0]
def Wf (s : Int) (c : Nat) (sens cats : Int) : Bool :=
 if s < 0 then false else if sens ≤ s then false else if 64 ≤ cats then true else decide (c >>> (max cats 0).toNat = 0)
theorem e113 {n : Nat} (hn : 1 ≤ n) (s : Int) (c : Nat) (sens cats : Int) : cpJ PR n 113 [lv s c, .int .i64 sens, .int .i64 cats] = some (.bool (Wf s c sens cats)) := by
 obtain ⟨n, rfl⟩ : ∃ m, n = m + 1 := ⟨n - 1, by omega⟩
 rw [u113]
 unfold Wf
 by_cases h1 : s < 0
 ·simp -implicitDefEqProofs [D113, h1]
 ·have h1' : 0 ≤ s := by omega
  by_cases h2 : sens ≤ s
  ·simp -implicitDefEqProofs [D113, h1, h1', h2]
  ·have h2' : s < sens := by omega
   by_cases h3 : 64 ≤ cats
   ·simp -implicitDefEqProofs [D113, h1, h1', h2, h2', h3]
   ·have h3' : cats < 64 := by omega
    have h4 : ¬ (if cats < 0 then (0 : Int) else cats) < 0 := by split <;> omega
    have h5 : (if cats < 0 then (0 : Int) else cats).toNat = (max cats 0).toNat := by split <;> omega
    have h6 : min (max cats 0).toNat 64 = (max cats 0).toNat := by omega
    have h7 := shr_nat c (max cats 0).toNat
    simp only [h1, h2, h3, if_false]
    simp -implicitDefEqProofs [D113, h1, h1', h2, h2', h3, h3', h4, IntKind.bits, -Int.natCast_pow]
    rw [h5, h6, h7]
    by_cases h : c >>> (max cats 0).toNat = 0
    ·rw [h]; simp
    ·simp only [h, decide_false]
     exact beq_eq_false_iff_ne.2 (by omega)
def ZO (s : Int) (c : Nat) (sens cats : Int) (i : Nat) : Prop := (∀ j : Nat, i ≤ j → j < 64 → c.testBit j = true → (j : Int) < cats) ∧ 0 ≤ s ∧ s < sens
noncomputable instance (s : Int) (c : Nat) (sens cats : Int) (i : Nat) : Decidable (ZO s c sens cats i) := Classical.propDecidable _
theorem H0 {s : Int} {c : Nat} {sens cats : Int} {i : Nat} (h : i < 64) (hb : c.testBit i = true → (i : Int) < cats) : ZO s c sens cats i ↔ ZO s c sens cats (i + 1) := by
 unfold ZO
 refine ⟨fun ⟨a, b⟩ => ⟨fun j hj => a j (by omega), b⟩, fun ⟨a, b⟩ => ⟨fun j hj h64 ht => ?_, b⟩⟩
 by_cases e : j = i
 ·subst e; exact hb ht
 ·exact a j (by omega) h64 ht
theorem l129 {n : Nat} (hn : 1 ≤ n) (s : Int) (c : Nat) (hc : c < 18446744073709551616) (sens cats : Int) (σ : Sto) : ∀ (k i m : Nat) (b : Qa), i + k = 64 → k < m →
  Qv 0 (Vt (cpJ PR n) (ciJ PR n) n (.int .i64 sens) (.int .i64 cats) (lv s c)) m [.int .i64 i, b] σ = some (.done (.bool (decide (ZO s c sens cats i))) σ) := by
 intro k
 induction k with
 | zero =>
  intro i m b hi hm
  obtain ⟨m, rfl⟩ : ∃ q, m = q + 1 := ⟨m - 1, by omega⟩
  obtain rfl : i = 64 := by omega
  refine Qt ?_
  have : ZO s c sens cats 64 ↔ 0 ≤ s ∧ s < sens := ⟨λh=> h.2, λh=> ⟨fun j h1 h2 => by omega, h⟩⟩
  by_cases h0 : 0 ≤ s <;> by_cases h1 : s < sens <;> simp -implicitDefEqProofs [Vt, Es, this, h0, h1]
 | succ k ih =>
  intro i m b hi hm
  obtain ⟨m, rfl⟩ : ∃ q, m = q + 1 := ⟨m - 1, by omega⟩
  have h64 : (i : Int) < 64 := by omega
  have hw : IntKind.i64.wrap ((i : Int) + 1) = ((i + 1 : Nat) : Int) := by rw [Ze (by omega) (by omega)]; rfl
  have he := e156 hn s c hc i
  rw [hasC_lt c i (by omega)] at he
  have hnext : ∀ b', Vt (cpJ PR n) (ciJ PR n) n (.int .i64 sens) (.int .i64 cats) (lv s c) [.int .i64 i, b] σ = some (.next 0 [.int .i64 ((i + 1 : Nat) : Int), b'] σ) → (c.testBit i = true → (i : Int) < cats) →
    Qv 0 (Vt (cpJ PR n) (ciJ PR n) n (.int .i64 sens) (.int .i64 cats) (lv s c)) (m + 1) [.int .i64 i, b] σ = some (.done (.bool (decide (ZO s c sens cats i))) σ) := by
   intro b' h hb
   rw [Qx h, ih (i + 1) m b' (by omega) (by omega)]
   simp only [H0 (by omega : i < 64) hb]
  cases hb : c.testBit i with
  | false =>
   rw [hb] at he
   refine hnext b ?_ (by simp -implicitDefEqProofs [hb])
   simp only [Vt, Es]
   simp -implicitDefEqProofs [h64, he]
   exact hw
  | true =>
   rw [hb] at he
   by_cases hcat : cats ≤ (i : Int)
   ·refine Qt ?_
    have : ¬ ZO s c sens cats i := λh=> by have := h.1 i (Nat.le_refl _) (by omega) hb; omega
    simp -implicitDefEqProofs [Vt, Es, h64, he, hcat, this]
   ·refine hnext b ?_ (λ_=> by omega)
    simp only [Vt, Es]
    simp -implicitDefEqProofs [h64, he, hcat]
    exact hw
theorem e129 {n : Nat} (hn : 70 ≤ n) (s : Int) (c : Nat) (hc : c < 18446744073709551616) (sens cats : Int) : cpJ PR n 129 [lv s c, .int .i64 sens, .int .i64 cats] = some (.bool (decide (ZO s c sens cats 0))) := by
 obtain ⟨n, rfl⟩ : ∃ m, n = m + 1 := ⟨n - 1, by omega⟩
 have := l129 (n := n) (by omega) s c hc sens cats Qd 64 0 n (.bool false) (by omega) (by omega)
 rw [u129]
 simp only [D129]
 simp only [Int.natCast_zero] at this
 simp -implicitDefEqProofs [this]
def domV (s : Int) (c : Nat) (s' : Int) (c' : Nat) : Bool := decide (s' ≤ s) && decide (c &&& c' = c')
theorem UO (a b : Nat) : (((a : Int) == (b : Int)) : Bool) = decide (a = b) := by
 by_cases e : a = b
 ·rw [e]; simp
 ·simp only [e, decide_false]
  exact beq_eq_false_iff_ne.2 (by omega)
theorem e114 {n : Nat} (hn : 1 ≤ n) (s : Int) (c : Nat) (hc : c < 18446744073709551616) (s' : Int) (c' : Nat) (hc' : c' < 18446744073709551616) : cpJ PR n 114 [lv s c, lv s' c'] = some (.bool (domV s c s' c')) := by
 obtain ⟨n, rfl⟩ : ∃ m, n = m + 1 := ⟨n - 1, by omega⟩
 rw [u114]
 simp -implicitDefEqProofs +contextual [D114, and_nat c c' hc hc', UO, domV]
theorem e74 {n : Nat} (hn : 2 ≤ n) (s : Int) (c : Nat) (hc : c < 18446744073709551616) (s' : Int) (c' : Nat) (hc' : c' < 18446744073709551616) (sens cats : Int) :
  cpJ PR n 74 [rg s c s' c', .int .i64 sens, .int .i64 cats] = some (.bool (Wf s c sens cats && Wf s' c' sens cats && domV s' c' s c)) := by
 obtain ⟨n, rfl⟩ : ∃ m, n = m + 1 := ⟨n - 1, by omega⟩
 rw [u74]
 simp -implicitDefEqProofs +contextual [D74, e113 (n := n) (by omega), e114 (n := n) (by omega), hc, hc']
end Go.Proofs.YtdibpeknpmhknaaGreat
namespace Go.Proofs.YtdibpeknpmhknaaGreat
open Go
def YM (s : Int) (c : Nat) (s' : Int) (c' : Nat) (i : Nat) : Prop := (∀ j : Nat, i ≤ j → j < 64 → c'.testBit j = true → c.testBit j = true) ∧ s' ≤ s
noncomputable instance (s : Int) (c : Nat) (s' : Int) (c' : Nat) (i : Nat) : Decidable (YM s c s' c' i) := Classical.propDecidable _
theorem JF {s : Int} {c : Nat} {s' : Int} {c' : Nat} {i : Nat} (h : i < 64) (hb : c'.testBit i = true → c.testBit i = true) : YM s c s' c' i ↔ YM s c s' c' (i + 1) := by
 unfold YM
 refine ⟨fun ⟨a, b⟩ => ⟨fun j hj => a j (by omega), b⟩, fun ⟨a, b⟩ => ⟨fun j hj h64 ht => ?_, b⟩⟩
 by_cases e : j = i
 ·subst e; exact hb ht
 ·exact a j (by omega) h64 ht
theorem l130 {n : Nat} (hn : 1 ≤ n) (s : Int) (c : Nat) (hc : c < 18446744073709551616) (s' : Int) (c' : Nat) (hc' : c' < 18446744073709551616) (σ : Sto) : ∀ (k i m : Nat) (b : Qa), i + k = 64 → k < m →
  Qv 0 (Gn (cpJ PR n) (ciJ PR n) n (lv s c) (lv s' c')) m [.int .i64 i, b] σ = some (.done (.bool (decide (YM s c s' c' i))) σ) := by
 intro k
 induction k with
 | zero =>
  intro i m b hi hm
  obtain ⟨m, rfl⟩ : ∃ q, m = q + 1 := ⟨m - 1, by omega⟩
  obtain rfl : i = 64 := by omega
  refine Qt ?_
  have : YM s c s' c' 64 ↔ s' ≤ s := ⟨λh=> h.2, λh=> ⟨fun j h1 h2 => by omega, h⟩⟩
  simp -implicitDefEqProofs [Gn, EB, this]
 | succ k ih =>
  intro i m b hi hm
  obtain ⟨m, rfl⟩ : ∃ q, m = q + 1 := ⟨m - 1, by omega⟩
  have h64 : (i : Int) < 64 := by omega
  have hw : IntKind.i64.wrap ((i : Int) + 1) = ((i + 1 : Nat) : Int) := by rw [Ze (by omega) (by omega)]; rfl
  have he := e156 hn s c hc i
  have he' := e156 hn s' c' hc' i
  rw [hasC_lt _ i (by omega)] at he he'
  cases hb' : c'.testBit i with
  | false =>
   rw [Qx (vs' := [.int .i64 ((i + 1 : Nat) : Int), b]) (σ' := σ) (by simp -implicitDefEqProofs [Gn, EB, h64, he', hb']; exact hw), ih (i + 1) m b (by omega) (by omega)]
   simp only [JF (by omega : i < 64) (s := s) (c := c) (s' := s') (c' := c') (by simp [hb'])]
  | true =>
   cases hb : c.testBit i with
   | true =>
    rw [Qx (vs' := [.int .i64 ((i + 1 : Nat) : Int), b]) (σ' := σ) (by simp -implicitDefEqProofs [Gn, EB, h64, he, he', hb, hb']; exact hw), ih (i + 1) m b (by omega) (by omega)]
    simp only [JF (by omega : i < 64) (s := s) (c := c) (s' := s') (c' := c') (by simp [hb])]
   | false =>
    refine Qt ?_
    have : ¬ YM s c s' c' i := λh=> by have := h.1 i (Nat.le_refl _) (by omega) hb'; rw [hb] at this; cases this
    simp -implicitDefEqProofs [Gn, EB, h64, he, he', hb, hb', this]
theorem dom_eq {s : Int} {c : Nat} {s' : Int} {c' : Nat} (hc' : c' < 18446744073709551616) : decide (YM s c s' c' 0) = domV s c s' c' := by
 unfold domV
 rw [← Bool.decide_and, decide_eq_decide]
 unfold YM
 constructor
 ·rintro ⟨h1, h2⟩
  refine ⟨h2, Nat.eq_of_testBit_eq λj=> ?_⟩
  rw [Nat.testBit_and]
  by_cases hj : j < 64
  ·cases hb : c'.testBit j with
   | false => simp
   | true => simp [h1 j (Nat.zero_le _) hj hb]
  ·have : c'.testBit j = false := Nat.testBit_lt_two_pow (Nat.lt_of_lt_of_le hc' (Nat.pow_le_pow_right (n := 2) (by decide) (by omega : 64 ≤ j)))
   simp [this]
 ·rintro ⟨h1, h2⟩
  refine ⟨fun j _ hj hb => ?_, h1⟩
  rw [← h2, Nat.testBit_and, Bool.and_eq_true] at hb
  exact hb.1
theorem e130 {n : Nat} (hn : 70 ≤ n) (s : Int) (c : Nat) (hc : c < 18446744073709551616) (s' : Int) (c' : Nat) (hc' : c' < 18446744073709551616) : cpJ PR n 130 [lv s c, lv s' c'] = some (.bool (domV s c s' c')) := by
 obtain ⟨n, rfl⟩ : ∃ m, n = m + 1 := ⟨n - 1, by omega⟩
 have := l130 (n := n) (by omega) s c hc s' c' hc' Qd 64 0 n (.bool false) (by omega) (by omega)
 rw [u130]
 simp only [Int.natCast_zero, dom_eq hc'] at this
 simp -implicitDefEqProofs [D130, this]
theorem HY {s : Int} {c : Nat} (hc : c < 18446744073709551616) (sens cats : Int) : decide (ZO s c sens cats 0) = Wf s c sens cats := by
 unfold Wf
 have key : (∀ j : Nat, 0 ≤ j → j < 64 → c.testBit j = true → (j : Int) < cats) ↔ (64 ≤ cats ∨ c >>> (max cats 0).toNat = 0) := by
  constructor
  ·intro h
   by_cases h64 : 64 ≤ cats
   ·exact .inl h64
   ·refine .inr (Nat.eq_of_testBit_eq λj=> ?_)
    rw [Nat.testBit_shiftRight, Nat.zero_testBit]
    cases hb : c.testBit ((max cats 0).toNat + j) with
    | false => rfl
    | true =>
     have hlt : (max cats 0).toNat + j < 64 := by
      refine Nat.lt_of_not_le λhge=> ?_
      have : c.testBit ((max cats 0).toNat + j) = false := Nat.testBit_lt_two_pow (Nat.lt_of_lt_of_le hc (Nat.pow_le_pow_right (n := 2) (by decide) hge))
      rw [this] at hb; cases hb
     have := h _ (Nat.zero_le _) hlt hb
     omega
  ·rintro (h | h) j - hj hb
   ·omega
   ·refine Int.lt_of_not_ge λhge=> ?_
    have e : c.testBit ((max cats 0).toNat + (j - (max cats 0).toNat)) = true := by rw [show (max cats 0).toNat + (j - (max cats 0).toNat) = j by omega]; exact hb
    rw [← Nat.testBit_shiftRight, h, Nat.zero_testBit] at e
    cases e
 by_cases h1 : s < 0
 ·have : ¬ ZO s c sens cats 0 := λh=> by have := h.2.1; omega
  simp [h1, this]
 ·by_cases h2 : sens ≤ s
  ·have : ¬ ZO s c sens cats 0 := λh=> by have := h.2.2; omega
   simp [h1, h2, this]
  ·by_cases h3 : 64 ≤ cats
   ·have : ZO s c sens cats 0 := ⟨key.2 (.inl h3), by omega, by omega⟩
    simp [h1, h2, h3, this]
   ·simp only [h1, h2, h3, if_false]
    rw [decide_eq_decide]
    constructor
    ·intro h; rcases key.1 h.1 with h' | h'
     ·exact absurd h' h3
     ·exact h'
    ·intro h; exact ⟨key.2 (.inr h), by omega, by omega⟩
theorem e102 {n : Nat} (hn : 80 ≤ n) (s : Int) (c : Nat) (hc : c < 18446744073709551616) (s' : Int) (c' : Nat) (hc' : c' < 18446744073709551616) (sens cats : Int) :
  cpJ PR n 102 [rg s c s' c', .int .i64 sens, .int .i64 cats] = some (.bool (Wf s c sens cats && Wf s' c' sens cats && domV s' c' s c)) := by
 obtain ⟨n, rfl⟩ : ∃ m, n = m + 1 := ⟨n - 1, by omega⟩
 have h1 := e129 (n := n) (by omega) s c hc sens cats
 have h2 := e129 (n := n) (by omega) s' c' hc' sens cats
 have h3 := e130 (n := n) (by omega) s' c' hc' s c hc
 rw [HY hc] at h1
 rw [HY hc'] at h2
 rw [u102]
 simp -implicitDefEqProofs +contextual [D102, h1, h2, h3]
end Go.Proofs.YtdibpeknpmhknaaGreat
namespace Go.Proofs.YtdibpeknpmhknaaGreat
open Go
structure Rok (c c' : Nat) : Prop where
 lo : c < 18446744073709551616
 hi : c' < 18446744073709551616
def conV (s : Int) (c : Nat) (s' : Int) (c' : Nat) (t : Int) (d : Nat) (t' : Int) (d' : Nat) : Bool := domV t d s c && domV s' c' t' d'
theorem e77 {n : Nat} (hn : 2 ≤ n) (s : Int) (c : Nat) (s' : Int) (c' : Nat) (h : Rok c c') (t : Int) (d : Nat) (t' : Int) (d' : Nat) (k : Rok d d') :
  cpJ PR n 77 [rg s c s' c', rg t d t' d'] = some (.bool (conV s c s' c' t d t' d')) := by
 obtain ⟨n, rfl⟩ : ∃ m, n = m + 1 := ⟨n - 1, by omega⟩
 rw [u77]
 simp -implicitDefEqProofs +contextual [D77, conV, e114 (n := n) (by omega) t d k.lo s c h.lo, e114 (n := n) (by omega) s' c' h.hi t' d' k.hi]
theorem e104 {n : Nat} (hn : 80 ≤ n) (s : Int) (c : Nat) (s' : Int) (c' : Nat) (h : Rok c c') (t : Int) (d : Nat) (t' : Int) (d' : Nat) (k : Rok d d') :
  cpJ PR n 104 [rg s c s' c', rg t d t' d'] = some (.bool (conV s c s' c' t d t' d')) := by
 obtain ⟨n, rfl⟩ : ∃ m, n = m + 1 := ⟨n - 1, by omega⟩
 rw [u104]
 simp -implicitDefEqProofs +contextual [D104, conV, e130 (n := n) (by omega) t d k.lo s c h.lo, e130 (n := n) (by omega) s' c' h.hi t' d' k.hi]
end Go.Proofs.YtdibpeknpmhknaaGreat
namespace Go.Proofs.YtdibpeknpmhknaaGreat
open Go
theorem Q_.d_arr (s : Q_) : s.d = Wk 4 (λi=> .int .u64 (s.w i)) := rfl
theorem Wo (σ : Sto) (s : Q_) : Z2 σ [s.d] = some (.obj σ.nobj 0, σ.new s.d) := rfl
def Vi (s : Q_) (k : Int) : Bool := decide (0 ≤ k) && (decide (k < 256) && (s.w (k.toNat / 64)).testBit (k.toNat % 64))
theorem Et (k : Nat) : (k : Int).tmod 64 = ((k % 64 : Nat) : Int) := by
 rw [Int.tmod_eq_emod_of_nonneg (by omega)]; rfl
theorem VE (k : Nat) (h : k < 256) : IntKind.i64.wrap ((k : Int) / 64) = ((k / 64 : Nat) : Int) := by
 rw [Ze (by omega) (by omega)]; rfl
theorem wrap_pow {k : Nat} (h : k < 64) : IntKind.u64.wrap ((2 : Int) ^ k) = ((2 ^ k : Nat) : Int) := by
 have h1 : 2 ^ k < 2 ^ 64 := Nat.pow_lt_pow_right (by decide) h
 have h2 : (2 : Nat) ^ 64 = 18446744073709551616 := by decide
 have h3 : ((2 ^ k : Nat) : Int) = (2 : Int) ^ k := by simp
 rw [WG (Int.le_of_lt (Int.pow_pos (by decide))) (by omega)]
 simp
theorem e131 {n : Nat} (hn : 1 ≤ n) (k : Nat) : cpJ PR n 131 [.int .i64 k] = some (.int .u64 ((2 ^ (k % 64) : Nat) : Int)) := by
 obtain ⟨n, rfl⟩ : ∃ m, n = m + 1 := ⟨n - 1, by omega⟩
 have h1 : ¬ (((k % 64 : Nat) : Int) < 0) := by omega
 have h2 : min (k % 64) 64 = k % 64 := by omega
 have h3 := wrap_pow (k := k % 64) (by omega)
 rw [u131]
 simp -implicitDefEqProofs only [D131, Qc, VL, Xq, Et]
 simp -implicitDefEqProofs [h1, h2, h3, IntKind.bits, -Int.natCast_emod, -Int.natCast_pow]
theorem e115 {n : Nat} (hn : 1 ≤ n) (k : Int) : cpJ PR n 115 [.int .i64 k] = some (.bool (decide (0 ≤ k) && decide (k < 256))) := by
 obtain ⟨n, rfl⟩ : ∃ m, n = m + 1 := ⟨n - 1, by omega⟩
 rw [u115]
 simp -implicitDefEqProofs +contextual [D115]
theorem YN {id j : Nat} (hj : j < 4) : Zb 4 1 [.obj id 0, .int .i64 ((j : Nat) : Int)] = some (.obj id j) := by
 have : (j : Int) < 4 := by omega
 simp [Zb, this]
theorem e76 {n : Nat} (hn : 2 ≤ n) (s : Q_) (k : Int) : cpJ PR n 76 [s.d, .int .i64 k] = some (.bool (Vi s k)) := by
 obtain ⟨n, rfl⟩ : ∃ m, n = m + 1 := ⟨n - 1, by omega⟩
 have h1 := e115 (n := n) (by omega) k
 rw [u76]
 by_cases h : 0 ≤ k ∧ k < 256
 ·obtain ⟨j, rfl⟩ : ∃ j : Nat, k = j := ⟨k.toNat, by omega⟩
  have hj : j < 256 := by omega
  have h2 : (decide (0 ≤ (j : Int)) && decide ((j : Int) < 256)) = true := by simp; omega
  rw [h2] at h1
  have hl := Yv (σ := (Qd.new s.d)) (id := Qd.nobj) (n := 4) (i := j / 64) (by rw [Sto.new_obj, s.d_arr]) (by simp) (by omega)
  have h3 : ¬ (((j % 64 : Nat) : Int) < 0) := by omega
  have h4 : min (j % 64) 64 = j % 64 := by omega
  have h5 := G0 (s.w (j / 64)) (s.lt _) (j % 64)
  have h6 : Vi s j = (s.w (j / 64)).testBit (j % 64) := by simp [Vi]; omega
  rw [h6]
  have h7 := YN (id := Qd.nobj) (j := j / 64) (by omega)
  cases hb : (s.w (j / 64)).testBit (j % 64) <;> rw [hb] at h5 <;>
   simp -implicitDefEqProofs [D76, h1, Wo, VE j hj, h7, hl, Et, h3, h4, h5, IntKind.bits, -Int.natCast_emod, -Int.natCast_ediv, -Int.natCast_pow, -Zb.eq_1]
 ·have h2 : (decide (0 ≤ k) && decide (k < 256)) = false := by simpa using h
  have h6 : Vi s k = false := by
   unfold Vi
   rw [← Bool.and_assoc, h2]; rfl
  rw [h2] at h1
  rw [h6]
  simp -implicitDefEqProofs [D76, h1, Wo]
theorem and_pow (c k : Nat) : c &&& 2 ^ k = if c.testBit k then 2 ^ k else 0 := by
 refine Nat.eq_of_testBit_eq λj=> ?_
 rw [Nat.testBit_and, Nat.testBit_two_pow]
 by_cases e : k = j
 ·subst e
  cases h : c.testBit k <;> simp
 ·cases h : c.testBit k <;> simp [Nat.testBit_two_pow, e]
theorem and_bit (c k : Nat) (hc : c < 18446744073709551616) (hk : k < 64) : (intBits .and .u64 (c : Int) ((2 ^ k : Nat) : Int) != 0) = c.testBit k := by
 have hp : 2 ^ k < 18446744073709551616 := by
  have h1 : 2 ^ k < 2 ^ 64 := Nat.pow_lt_pow_right (by decide) hk
  have h2 : (2 : Nat) ^ 64 = 18446744073709551616 := by decide
  omega
 rw [and_nat c (2 ^ k) hc hp, and_pow]
 cases h : c.testBit k
 ·simp
 ·have : 0 < 2 ^ k := Nat.pow_pos (by decide)
  rw [if_pos rfl, bne_iff_ne]
  omega
theorem e103 {n : Nat} (hn : 2 ≤ n) (s : Q_) (k : Int) : cpJ PR n 103 [s.d, .int .i64 k] = some (.bool (Vi s k)) := by
 obtain ⟨n, rfl⟩ : ∃ m, n = m + 1 := ⟨n - 1, by omega⟩
 rw [u103]
 by_cases h : 0 ≤ k ∧ k < 256
 ·obtain ⟨j, rfl⟩ : ∃ j : Nat, k = j := ⟨k.toNat, by omega⟩
  have hj : j < 256 := by omega
  have hj' : (j : Int) < 256 := by omega
  have h1 := e131 (n := n) (by omega) j
  have hl := Yv (σ := (Qd.new s.d)) (id := Qd.nobj) (n := 4) (i := j / 64) (by rw [Sto.new_obj, s.d_arr]) (by simp) (by omega)
  have h5 := and_bit (s.w (j / 64)) (j % 64) (s.lt _) (by omega)
  have h6 : Vi s j = (s.w (j / 64)).testBit (j % 64) := by simp [Vi]; omega
  rw [h6]
  have h7 := YN (id := Qd.nobj) (j := j / 64) (by omega)
  simp -implicitDefEqProofs [D103, h1, hj', Wo, VE j hj, h7, hl, h5, -Int.natCast_emod, -Int.natCast_ediv, -Int.natCast_pow, -Zb.eq_1]
 ·have h6 : Vi s k = false := by
   unfold Vi
   rw [← Bool.and_assoc, show (decide (0 ≤ k) && decide (k < 256)) = false by simpa using h]; rfl
  rw [h6]
  by_cases h0 : 0 ≤ k
  ·have h1 : ¬ k < 256 := fun h' => h ⟨h0, h'⟩
   simp -implicitDefEqProofs [D103, Wo, h0, h1]
  ·simp -implicitDefEqProofs [D103, Wo, h0]
def Q_.zero : Q_ := ⟨λ_=> 0, λ_=> by decide⟩
theorem pow_lt' {k : Nat} (hk : k < 64) : 2 ^ k < 18446744073709551616 := by
 have h1 : 2 ^ k < 2 ^ 64 := Nat.pow_lt_pow_right (by decide) hk
 have h2 : (2 : Nat) ^ 64 = 18446744073709551616 := by decide
 omega
def Vu (s : Q_) (k : Nat) : Q_ := ⟨upd s.w (k / 64) (s.w (k / 64) ||| 2 ^ (k % 64)), λi=> by
 simp only [upd]
 split
 ·exact or_lt (s.lt _) (pow_lt' (Nat.mod_lt _ (by decide)))
 ·exact s.lt i⟩
def andNot (a b : Nat) : Nat := (BitVec.ofNat 64 a &&& ~~~ BitVec.ofNat 64 b).toNat
theorem G2 (a b : Nat) : andNot a b < 18446744073709551616 := (BitVec.ofNat 64 a &&& ~~~ BitVec.ofNat 64 b).isLt
theorem E2 (a b : Nat) : intBits .andNot .u64 (a : Int) (b : Int) = ((andNot a b : Nat) : Int) := by
 simp only [intBits, andNot]
 rw [show BitVec.ofInt IntKind.u64.bits (a : Int) = BitVec.ofNat 64 a from BitVec.ofInt_natCast _ _, show BitVec.ofInt IntKind.u64.bits (b : Int) = BitVec.ofNat 64 b from BitVec.ofInt_natCast _ _]
 exact WG (Int.natCast_nonneg _) (Int.ofNat_lt.2 (G2 a b))
def outS (s : Q_) (k : Nat) : Q_ := ⟨upd s.w (k / 64) (andNot (s.w (k / 64)) (2 ^ (k % 64))), λi=> by
 simp only [upd]
 split
 ·exact G2 _ _
 ·exact s.lt i⟩
theorem ld_set {σ : Sto} {id : Nat} {s : Q_} (ho : σ.obj id = s.d) (hid : id < σ.nobj) : Q8 σ (some 4) [.obj id 0] = some (s.d, σ) := by
 rw [Yl (some 4) ho hid]
 rfl
theorem withS_d (s : Q_) (k : Nat) : Wk 4 (upd (λi=> Qa.int .u64 (s.w i)) (k / 64) (.int .u64 ((s.w (k / 64) ||| 2 ^ (k % 64) : Nat) : Int))) = (Vu s k).d := by
 rw [Q_.d_arr]
 congr 1
 funext i
 simp only [upd, Vu]
 split <;> rfl
theorem outS_d (s : Q_) (k : Nat) : Wk 4 (upd (λi=> Qa.int .u64 (s.w i)) (k / 64) (.int .u64 ((andNot (s.w (k / 64)) (2 ^ (k % 64)) : Nat) : Int))) = (outS s k).d := by
 rw [Q_.d_arr]
 congr 1
 funext i
 simp only [upd, outS]
 split <;> rfl
theorem wr_set (s t : Q_) : Qh 0 4 [s.d, t.d] = some t.d := rfl
theorem UX (t : Q_) : Qh 0 4 [.agg [.int .u64 0, .int .u64 0, .int .u64 0, .int .u64 0], t.d] = some t.d := rfl
theorem WZ (t : Q_) : Qb 0 (some 4) [t.d] = some t.d := rfl
theorem e120 {n : Nat} (hn : 2 ≤ n) (s : Q_) (k : Nat) (hk : k < 256) : cpJ PR n 120 [s.d, .int .i64 k] = some (Vu s k).d := by
 obtain ⟨n, rfl⟩ : ∃ m, n = m + 1 := ⟨n - 1, by omega⟩
 rw [u120]
 have hj' : (k : Int) < 256 := by omega
 have h1 := e131 (n := n) (by omega) k
 have hl := Yv (σ := (Qd.new s.d)) (id := Qd.nobj) (n := 4) (i := k / 64) (by rw [Sto.new_obj, s.d_arr]) (by simp) (by omega)
 have h7 := YN (id := Qd.nobj) (j := k / 64) (by omega)
 have h8 := or_nat (s.w (k / 64)) (2 ^ (k % 64)) (s.lt _) (pow_lt' (Nat.mod_lt _ (by decide)))
 have h9 := Gb (σ := (Qd.new s.d)) (id := Qd.nobj) (n := 4) (i := k / 64) (v := .int .u64 ((s.w (k / 64) ||| 2 ^ (k % 64) : Nat) : Int)) (by rw [Sto.new_obj, s.d_arr]) (by simp) (by omega) rfl rfl
 rw [withS_d] at h9
 have h10 := ld_set (σ := (Qd.new s.d).put Qd.nobj (Vu s k).d) (id := Qd.nobj) (s := Vu s k) (by simp) (by simp)
 simp -implicitDefEqProofs only [D120, Wo, bns_some]
 simp -implicitDefEqProofs [h1, hj', VE k hk, h7, hl, h8, h9, h10, UX, WZ, -Int.natCast_emod, -Int.natCast_ediv, -Int.natCast_pow, -Zb.eq_1, -Qh.eq_1, -Qb.eq_1, -Sto.new_put]
theorem e122 {n : Nat} (hn : 2 ≤ n) (s : Q_) (k : Nat) (hk : k < 256) : cpJ PR n 122 [s.d, .int .i64 k] = some (outS s k).d := by
 obtain ⟨n, rfl⟩ : ∃ m, n = m + 1 := ⟨n - 1, by omega⟩
 rw [u122]
 have hj' : (k : Int) < 256 := by omega
 have h1 := e131 (n := n) (by omega) k
 have hl := Yv (σ := (Qd.new s.d)) (id := Qd.nobj) (n := 4) (i := k / 64) (by rw [Sto.new_obj, s.d_arr]) (by simp) (by omega)
 have h7 := YN (id := Qd.nobj) (j := k / 64) (by omega)
 have h8 := E2 (s.w (k / 64)) (2 ^ (k % 64))
 have h9 := Gb (σ := (Qd.new s.d)) (id := Qd.nobj) (n := 4) (i := k / 64) (v := .int .u64 ((andNot (s.w (k / 64)) (2 ^ (k % 64)) : Nat) : Int)) (by rw [Sto.new_obj, s.d_arr]) (by simp) (by omega) rfl rfl
 rw [outS_d] at h9
 have h10 := ld_set (σ := (Qd.new s.d).put Qd.nobj (outS s k).d) (id := Qd.nobj) (s := outS s k) (by simp) (by simp)
 simp -implicitDefEqProofs only [D122, Wo, bns_some]
 simp -implicitDefEqProofs [h1, hj', VE k hk, h7, hl, h8, h9, h10, UX, WZ, -Int.natCast_emod, -Int.natCast_ediv, -Int.natCast_pow, -Zb.eq_1, -Qh.eq_1, -Qb.eq_1, -Sto.new_put]
end Go.Proofs.YtdibpeknpmhknaaGreat
namespace Go.Proofs.YtdibpeknpmhknaaGreat
open Go
def JX : Nat → Q_
 | 0 => .zero
 | k + 1 => Vu (JX k) k
theorem l83 {n : Nat} (hn : 2 ≤ n) (q : Nat) (hq : q < 9223372036854775808) (σ : Sto) : ∀ (k i m : Nat), i + k = min q 256 → k < m →
  Qv 0 (L83_0 (cpJ PR n) (ciJ PR n) n (.int .i64 q)) m [.int .i64 i, (JX i).d] σ = some (.done (JX (min q 256)).d σ) := by
 intro k
 induction k with
 | zero =>
  intro i m hi hm
  obtain ⟨m, rfl⟩ : ∃ j, m = j + 1 := ⟨m - 1, by omega⟩
  obtain rfl : i = min q 256 := by omega
  refine Qt ?_
  by_cases h : q ≤ 256
  ·rw [Nat.min_eq_left h]
   simp -implicitDefEqProofs [L83_0, B83_0, UX, WZ, -Qh.eq_1, -Qb.eq_1]
  ·rw [Nat.min_eq_right (by omega)]
   have h1 : (256 : Int) < q := by omega
   simp -implicitDefEqProofs [L83_0, B83_0, UX, WZ, h1, -Qh.eq_1, -Qb.eq_1]
 | succ k ih =>
  intro i m hi hm
  obtain ⟨m, rfl⟩ : ∃ j, m = j + 1 := ⟨m - 1, by omega⟩
  have h1 : (i : Int) < q := by omega
  have h2 : (i : Int) < 256 := by omega
  have he := e120 (n := n) (by omega) (JX i) i (by omega)
  have hw : IntKind.i64.wrap ((i : Int) + 1) = (i : Int) + 1 := by rw [Ze (by omega) (by omega)]
  refine (Qx (vs' := [.int .i64 ((i + 1 : Nat) : Int), (JX (i + 1)).d]) (σ' := σ) ?_).trans (ih (i + 1) m (by omega) (by omega))
  simp -implicitDefEqProofs [L83_0, B83_0, h1, h2, WZ, he, wr_set, hw, JX, -Qh.eq_1, -Qb.eq_1]
theorem e83 {n : Nat} (hn : 300 ≤ n) (q : Nat) (hq : q < 9223372036854775808) : cpJ PR n 83 [.int .i64 q] = some (JX (min q 256)).d := by
 obtain ⟨n, rfl⟩ : ∃ m, n = m + 1 := ⟨n - 1, by omega⟩
 have h := l83 (n := n) (by omega) q hq Qd (min q 256) 0 n (by omega) (by omega)
 rw [u83]
 have h0 : Qh 0 4 [.agg [.int .u64 0, .int .u64 0, .int .u64 0, .int .u64 0], .agg [.int .u64 0, .int .u64 0, .int .u64 0, .int .u64 0]] = some Q_.zero.d := rfl
 simp only [Int.natCast_zero, JX] at h
 simp -implicitDefEqProofs [D83, h0, h, -Qh.eq_1, POp.sem]
def Wz (s t : Q_) : Q_ := ⟨λi=> andNot (s.w i) (t.w i), λi=> G2 _ _⟩
abbrev Jo (s : Q_) : Nat → Qa := λi=> .int .u64 (s.w i)
theorem l121 {n : Nat} (a b : Nat) (hab : a ≠ b) (s t : Q_) : ∀ (k i m : Nat) (σ : Sto), i + k = 4 → k < m → a < σ.nobj → b < σ.nobj → σ.obj b = t.d → σ.obj a = Wk 4 (JD i (Jo (Wz s t)) (Jo s)) →
  Ans (Qv 0 (L121_0 (cpJ PR n) (ciJ PR n) n (.obj a 0) (.obj b 0)) m [.int .i64 i] σ) (λo=> ∃ σ', o = .done (Wz s t).d σ') := by
 intro k
 induction k with
 | zero =>
  intro i m σ hi hm ha hb h1 h2
  obtain ⟨m, rfl⟩ : ∃ j, m = j + 1 := ⟨m - 1, by omega⟩
  obtain rfl : i = 4 := by omega
  rw [arr_upto] at h2
  have h3 := ld_set (σ := σ) (id := a) (s := Wz s t) h2 ha
  refine Q2 ?_
  simp -implicitDefEqProofs [L121_0, B121_0, h3, UX, WZ, -Qh.eq_1, -Qb.eq_1]
 | succ k ih =>
  intro i m σ hi hm ha hb h1 h2
  obtain ⟨m, rfl⟩ : ∃ j, m = j + 1 := ⟨m - 1, by omega⟩
  have hi4 : (i : Int) < 4 := by omega
  have h3 := Yv (i := i) h2 ha (by omega)
  have h4 := Yv (σ := σ) (id := b) (n := 4) (i := i) (f := Jo t) h1 hb (by omega)
  have e : JD i (Jo (Wz s t)) (Jo s) i = .int .u64 (s.w i) := by simp [JD, Jo]
  rw [e] at h3
  have hx := YN (id := a) (j := i) (by omega)
  have hy := YN (id := b) (j := i) (by omega)
  have h5 := E2 (s.w i) (t.w i)
  have h6 := Gb (i := i) (v := .int .u64 ((andNot (s.w i) (t.w i) : Nat) : Int)) h2 ha (by omega) rfl rfl
  have hup : upd (JD i (Jo (Wz s t)) (Jo s)) i (.int .u64 ((andNot (s.w i) (t.w i) : Nat) : Int)) = JD (i + 1) (Jo (Wz s t)) (Jo s) := upto_succ i (Jo (Wz s t)) (Jo s)
  rw [hup] at h6
  have hw : IntKind.i64.wrap ((i : Int) + 1) = (i : Int) + 1 := by rw [Ze (by omega) (by omega)]
  have hr := ih (i + 1) m _ (by omega) (by omega) (show a < (σ.put a (Wk 4 (JD (i + 1) (Jo (Wz s t)) (Jo s)))).nobj by simpa using ha) (by simpa using hb) (by rw [Sto.put_obj_ne (Ne.symm hab)]; exact h1) (by simp)
  rw [show (((i + 1 : Nat) : Int)) = (i : Int) + 1 from rfl] at hr
  refine Q2 ?_
  simp -implicitDefEqProofs [L121_0, B121_0, hi4, h3, h4, hx, hy, h5, h6, hw, hr]
theorem e121 {n : Nat} (hn : 10 ≤ n) (s t : Q_) : cpJ PR n 121 [s.d, t.d] = some (Wz s t).d := by
 obtain ⟨n, rfl⟩ : ∃ m, n = m + 1 := ⟨n - 1, by omega⟩
 have h := l121 (n := n) Qd.nobj (Qd.new s.d).nobj (by simp) s t 4 0 n ((Qd.new s.d).new t.d) (by omega) (by omega) (by simp; omega) (by simp) (by rw [Sto.new_obj]) (by rw [Sto.new_obj_ne (by simp), Sto.new_obj, upto_zero]; rfl)
 obtain ⟨o, h1, σ', rfl⟩ := h
 simp only [Int.natCast_zero, Sto.new_nobj] at h1
 rw [u121]
 simp -implicitDefEqProofs [D121, Wo, h1]
def withinS (s t : Q_) : Bool := decide (andNot (s.w 0) (t.w 0) = 0) && (decide (andNot (s.w 1) (t.w 1) = 0) && (decide (andNot (s.w 2) (t.w 2) = 0) && decide (andNot (s.w 3) (t.w 3) = 0)))
theorem natInt_beq0 (a : Nat) : (((a : Int) == 0) : Bool) = decide (a = 0) := UO a 0
theorem e84 {n : Nat} (hn : 20 ≤ n) (s t : Q_) : cpJ PR n 84 [s.d, t.d] = some (.bool (withinS s t)) := by
 obtain ⟨n, rfl⟩ : ∃ m, n = m + 1 := ⟨n - 1, by omega⟩
 have h := e121 (n := n) (by omega) s t
 have b1 : Qm [s.d] = some s.d := rfl
 have b2 : Qm [t.d] = some t.d := rfl
 rw [u84]
 simp -implicitDefEqProofs [D84, h, b1, b2, WZ, -Qm.eq_1, -Qb.eq_1, POp.sem]
 simp -implicitDefEqProofs [Q_.d, Q_.row, Wz, withinS, natInt_beq0]
end Go.Proofs.YtdibpeknpmhknaaGreat
namespace Go.Proofs.YtdibpeknpmhknaaGreat
open Go
def chV (x : Int) : Bool := decide (97 ≤ x) && decide (x ≤ 122) || decide (65 ≤ x) && decide (x ≤ 90) || decide (48 ≤ x) && decide (x ≤ 57) || (x == 95)
def isL (b : UInt8) : Bool := chV b.toNat
theorem e171 {n : Nat} (hn : 1 ≤ n) (x : Int) : cpJ PR n 171 [.int .u8 x] = some (.bool (chV x)) := by
 obtain ⟨n, rfl⟩ : ∃ m, n = m + 1 := ⟨n - 1, by omega⟩
 rw [u171]
 simp -implicitDefEqProofs +contextual [D171, chV]
theorem e170 {n : Nat} (hn : 1 ≤ n) (x : Int) : cpJ PR n 170 [.int .u8 x] = some (.bool (chV x)) := by
 obtain ⟨n, rfl⟩ : ∃ m, n = m + 1 := ⟨n - 1, by omega⟩
 rw [u170]
 have : chV x = (decide (65 ≤ x) && decide (x ≤ 90) || decide (97 ≤ x) && decide (x ≤ 122) || decide (48 ≤ x) && decide (x ≤ 57) || (x == 95)) := by
  unfold chV
  rw [Bool.or_comm (decide (97 ≤ x) && decide (x ≤ 122))]
 rw [this]
 simp -implicitDefEqProofs +contextual [D170]
def GJ (s : List UInt8) : Bool := s.all isL && !s.isEmpty
theorem l166 {n : Nat} (hn : 1 ≤ n) (s : List UInt8) (hs : s.length < 1000000) (σ : Sto) : ∀ (k i m : Nat) (b : Qa), i + k = s.length → k < m →
  Qv 0 (Ea (cpJ PR n) (ciJ PR n) n (.str s) (.int .i64 s.length)) m [.int .i64 i, b] σ = some (.done (.bool ((s.drop i).all isL && !s.isEmpty)) σ) := by
 intro k
 induction k with
 | zero =>
  intro i m b hi hm
  obtain ⟨m, rfl⟩ : ∃ q, m = q + 1 := ⟨m - 1, by omega⟩
  have hi' : ¬ ((i : Int) < s.length) := by omega
  refine Qt ?_
  rw [List.drop_eq_nil_of_le (by omega)]
  simp -implicitDefEqProofs [Ea, B166_0, hi']
 | succ k ih =>
  intro i m b hi hm
  obtain ⟨m, rfl⟩ : ∃ q, m = q + 1 := ⟨m - 1, by omega⟩
  have hi' : ((i : Int) < s.length) := by omega
  obtain ⟨x, hx⟩ := Qz (by omega : i < s.length)
  have he := e171 hn x.toNat
  rw [QY hx]
  cases hb : chV x.toNat with
  | true =>
   rw [hb] at he
   rw [Qx (vs' := [.int .i64 ((i + 1 : Nat) : Int), b]) (σ' := σ) (by simp -implicitDefEqProofs [Ea, B166_0, hi', hx, he]; exact Z3 (by omega)), ih (i + 1) m b (by omega) (by omega)]
   simp [isL, hb]
  | false =>
   rw [hb] at he
   refine Qt ?_
   simp -implicitDefEqProofs [Ea, B166_0, hi', hx, he, isL, hb]
theorem e166 {n : Nat} (s : List UInt8) (hs : s.length < 1000000) (hn : s.length + 5 ≤ n) : cpJ PR n 166 [.str s] = some (.bool (GJ s)) := by
 obtain ⟨n, rfl⟩ : ∃ m, n = m + 1 := ⟨n - 1, by omega⟩
 have := l166 (n := n) (by omega) s hs Qd s.length 0 n (.bool false) (by omega) (by omega)
 rw [u166]
 simp only [Int.natCast_zero] at this
 simp -implicitDefEqProofs [D166, this, GJ]
def Za (s : List UInt8) : List (List UInt8) → Nat → Int
 | [], _ => -1
 | x :: xs, i => if x = s then i else Za s xs (i + 1)
theorem l141 {n : Nat} (z : Zs) (l : List (List UInt8)) (hl : l.length < 1000000) (s : List UInt8) (σ : Sto) : ∀ (k i m : Nat) (b : Qa), i + k = l.length → k < m →
  Qv 0 (EC (cpJ PR n) (ciJ PR n) n (Zc z l) (.str s) (.int .i64 l.length)) m [.int .i64 i, b] σ = some (.done (.int .i64 (Za s (l.drop i) i)) σ) := by
 intro k
 induction k with
 | zero =>
  intro i m b hi hm
  obtain ⟨m, rfl⟩ : ∃ q, m = q + 1 := ⟨m - 1, by omega⟩
  have hi' : ¬ ((i : Int) < l.length) := by omega
  refine Qt ?_
  rw [List.drop_eq_nil_of_le (by omega)]
  simp -implicitDefEqProofs [EC, B141_0, hi', Za]
 | succ k ih =>
  intro i m b hi hm
  obtain ⟨m, rfl⟩ : ∃ q, m = q + 1 := ⟨m - 1, by omega⟩
  have hi' : ((i : Int) < l.length) := by omega
  obtain ⟨x, hx⟩ := Qz (by omega : i < l.length)
  rw [QY hx, Za]
  by_cases hxs : x = s
  ·refine Qt ?_
   subst hxs
   simp -implicitDefEqProofs [EC, B141_0, hi', hx]
  ·have hxs' : ¬ s = x := λh=> hxs h.symm
   rw [Qx (vs' := [.int .i64 ((i + 1 : Nat) : Int), b]) (σ' := σ) (by simp -implicitDefEqProofs [EC, B141_0, hi', hx, hxs']; exact Z3 (by omega)), ih (i + 1) m b (by omega) (by omega)]
   simp [hxs]
theorem e141 {n : Nat} (z : Zs) (l : List (List UInt8)) (s : List UInt8) (hl : l.length < 1000000) (hn : l.length + 5 ≤ n) : cpJ PR n 141 [Zc z l, .str s] = some (.int .i64 (Za s l 0)) := by
 obtain ⟨n, rfl⟩ : ∃ m, n = m + 1 := ⟨n - 1, by omega⟩
 have := l141 (n := n) z l hl s Qd l.length 0 n (.int .i64 0) (by omega) (by omega)
 rw [u141]
 simp only [Int.natCast_zero, List.drop_zero] at this
 simp -implicitDefEqProofs [D141, this]
theorem l169 {n : Nat} (z : Zs) (l : List (List UInt8)) (hl : l.length < 1000000) (s : List UInt8) (σ : Sto) : ∀ (k i m : Nat) (b : Qa), i + k = l.length → k < m →
  Qv 0 (HH (cpJ PR n) (ciJ PR n) n (Zc z l) (.str s)) m [.int .i64 i, b] σ = some (.done (.int .i64 (Za s (l.drop i) i)) σ) := by
 intro k
 induction k with
 | zero =>
  intro i m b hi hm
  obtain ⟨m, rfl⟩ : ∃ q, m = q + 1 := ⟨m - 1, by omega⟩
  have hi' : ¬ ((i : Int) < l.length) := by omega
  refine Qt ?_
  rw [List.drop_eq_nil_of_le (by omega)]
  simp -implicitDefEqProofs [HH, B169_0, hi', Za]
 | succ k ih =>
  intro i m b hi hm
  obtain ⟨m, rfl⟩ : ∃ q, m = q + 1 := ⟨m - 1, by omega⟩
  have hi' : ((i : Int) < l.length) := by omega
  obtain ⟨x, hx⟩ := Qz (by omega : i < l.length)
  rw [QY hx, Za]
  by_cases hxs : x = s
  ·refine Qt ?_
   subst hxs
   simp -implicitDefEqProofs [HH, B169_0, hi', hx]
  ·rw [Qx (vs' := [.int .i64 ((i + 1 : Nat) : Int), b]) (σ' := σ) (by simp -implicitDefEqProofs [HH, B169_0, hi', hx, hxs]; exact Z3 (by omega)), ih (i + 1) m b (by omega) (by omega)]
   simp [hxs]
theorem e169 {n : Nat} (z : Zs) (l : List (List UInt8)) (s : List UInt8) (hl : l.length < 1000000) (hn : l.length + 5 ≤ n) : cpJ PR n 169 [Zc z l, .str s] = some (.int .i64 (Za s l 0)) := by
 obtain ⟨n, rfl⟩ : ∃ m, n = m + 1 := ⟨n - 1, by omega⟩
 have := l169 (n := n) z l hl s Qd l.length 0 n (.int .i64 0) (by omega) (by omega)
 rw [u169]
 simp only [Int.natCast_zero, List.drop_zero] at this
 simp -implicitDefEqProofs [D169, this]
theorem JN (s : List UInt8) : ∀ (l : List (List UInt8)) (i : Nat), (0 ≤ Za s l i ↔ s ∈ l)
 | [], i => by simp [Za]
 | x :: xs, i => by
  unfold Za
  by_cases h : x = s
  ·simp [h]
  ·have h' : ¬ s = x := λe=> h e.symm
   simp only [h, if_false, List.mem_cons, h', false_or]
   exact JN s xs (i + 1)
theorem e140 {n : Nat} (z : Zs) (l : List (List UInt8)) (s : List UInt8) (hl : l.length < 1000000) (hn : l.length + 6 ≤ n) : cpJ PR n 140 [Zc z l, .str s] = some (.bool (decide (s ∈ l))) := by
 obtain ⟨n, rfl⟩ : ∃ m, n = m + 1 := ⟨n - 1, by omega⟩
 rw [u140]
 simp -implicitDefEqProofs [D140, e141 (n := n) z l s hl (by omega)]
 exact JN s l 0
end Go.Proofs.YtdibpeknpmhknaaGreat
namespace Go.Proofs.YtdibpeknpmhknaaGreat
open Go
def Z5 (s : List UInt8) : Bool := decide (s.length ≤ 32) && GJ s
def Vg : List (List UInt8) → List (List UInt8) → Bool
 | _, [] => true
 | pre, s :: rest => Z5 s && !decide (s ∈ pre) && Vg (pre ++ [s]) rest
theorem l160 {n : Nat} (z : Zs) (l : List (List UInt8)) (hl : l.length < 1000) (hs : ∀ s ∈ l, s.length < 10000) (hn : 20000 ≤ n) (σ : Sto) : ∀ (k i m : Nat) (b : Qa), i + k = l.length → k < m →
  Qv 0 (WX (cpJ PR n) (ciJ PR n) n (Zc z l) (.int .i64 l.length)) m [.int .i64 i, b] σ = some (.done (.bool (Vg (l.take i) (l.drop i))) σ) := by
 intro k
 induction k with
 | zero =>
  intro i m b hi hm
  obtain ⟨m, rfl⟩ : ∃ q, m = q + 1 := ⟨m - 1, by omega⟩
  have hi' : ¬ ((i : Int) < l.length) := by omega
  refine Qt ?_
  rw [List.drop_eq_nil_of_le (by omega)]
  simp -implicitDefEqProofs [WX, Gf, hi', Vg]
 | succ k ih =>
  intro i m b hi hm
  obtain ⟨m, rfl⟩ : ∃ q, m = q + 1 := ⟨m - 1, by omega⟩
  have hi' : ((i : Int) < l.length) := by omega
  have hle : i ≤ l.length := by omega
  obtain ⟨x, hx⟩ := Qz (by omega : i < l.length)
  have hxl := hs x (List.mem_of_getElem? hx)
  have h1 := e166 (n := n) x (by omega) (by omega)
  have h2 := e140 (n := n) (z.part (l.map λs=> [Qa.str s])) (l.take i) x (by simp; omega) (by simp; omega)
  simp only [Zc, List.map_take] at h2
  rw [QY hx, Vg, ← Zp hx]
  have hnext : (Z5 x && !decide (x ∈ l.take i)) = true → WX (cpJ PR n) (ciJ PR n) n (Zc z l) (.int .i64 l.length) [.int .i64 i, b] σ = some (.next 0 [.int .i64 ((i + 1 : Nat) : Int), b] σ) := by
   intro h
   simp only [Z5, Bool.and_eq_true, decide_eq_true_eq, Bool.not_eq_true', decide_eq_false_iff_not] at h
   obtain ⟨⟨a1, a2⟩, a3⟩ := h
   have a1' : ¬ (32 : Int) < x.length := by omega
   simp only [a2] at h1
   simp only [a3, decide_false] at h2
   simp -implicitDefEqProofs [WX, Gf, hi', hx, a1', h1, hle, h2]
   exact Z3 (by omega)
  have hdone : (Z5 x && !decide (x ∈ l.take i)) = false → WX (cpJ PR n) (ciJ PR n) n (Zc z l) (.int .i64 l.length) [.int .i64 i, b] σ = some (.done (.bool false) σ) := by
   intro h
   by_cases a1 : (32 : Int) < x.length
   ·simp -implicitDefEqProofs [WX, Gf, hi', hx, a1]
   ·cases a2 : GJ x with
    | false =>
     rw [a2] at h1
     simp -implicitDefEqProofs [WX, Gf, hi', hx, a1, h1]
    | true =>
     rw [a2] at h1
     have a3 : x ∈ l.take i := by
      have : decide (x.length ≤ 32) = true := by simp; omega
      simpa [Z5, a2, this] using h
     simp only [a3, decide_true] at h2
     simp -implicitDefEqProofs [WX, Gf, hi', hx, a1, h1, hle, h2]
  cases hb : (Z5 x && !decide (x ∈ l.take i)) with
  | true =>
   rw [Qx (hnext hb), ih (i + 1) m b (by omega) (by omega), Bool.true_and]
  | false =>
   rw [Bool.false_and]
   exact Qt (hdone hb)
def Xj (most : Int) (l : List (List UInt8)) : Bool := decide ((l.length : Int) ≤ most) && Vg [] l
theorem e160 {n : Nat} (z : Zs) (l : List (List UInt8)) (hl : l.length < 1000) (hs : ∀ s ∈ l, s.length < 10000) (hn : 20001 ≤ n) (most : Int) : cpJ PR n 160 [Zc z l, .int .i64 most] = some (.bool (Xj most l)) := by
 obtain ⟨n, rfl⟩ : ∃ m, n = m + 1 := ⟨n - 1, by omega⟩
 have := l160 (n := n) z l hl hs (by omega) Qd l.length 0 n (.bool false) (by omega) (by omega)
 rw [u160]
 simp only [Int.natCast_zero, List.drop_zero, List.take_zero] at this
 by_cases h : most < l.length
 ·have h' : ¬ (l.length : Int) ≤ most := by omega
  simp -implicitDefEqProofs [D160, h, Xj, h']
 ·have h' : (l.length : Int) ≤ most := by omega
  simp -implicitDefEqProofs [D160, h, Xj, h', this]
theorem e146 {n : Nat} (z z' : Zs) (l l' : List (List UInt8)) (hl : l.length < 1000) (hs : ∀ s ∈ l, s.length < 10000) (hl' : l'.length < 1000) (hs' : ∀ s ∈ l', s.length < 10000) (hn : 20002 ≤ n) :
  cpJ PR n 146 [Zc z l, Zc z' l'] = some (.bool (Xj 16 l && Xj 64 l')) := by
 obtain ⟨n, rfl⟩ : ∃ m, n = m + 1 := ⟨n - 1, by omega⟩
 rw [u146]
 simp -implicitDefEqProofs +contextual [D146, e160 (n := n) z l hl hs (by omega), e160 (n := n) z' l' hl' hs' (by omega)]
theorem idxAt_lt (s : List UInt8) : ∀ (l : List (List UInt8)) (i j : Nat), l[j]? = some s → (Za s l i < ((i + j : Nat) : Int) ↔ s ∈ l.take j)
 | [], i, j, h => by simp at h
 | x :: xs, i, j, h => by
  unfold Za
  by_cases e : x = s
  ·simp only [e, if_true]
   cases j with
   | zero => simp
   | succ j => simp; omega
  ·have e' : ¬ s = x := λh=> e h.symm
   simp only [e, if_false]
   cases j with
   | zero => simp only [List.getElem?_cons_zero, Option.some.injEq] at h; exact absurd h e
   | succ j =>
    have := idxAt_lt s xs (i + 1) j (by simpa using h)
    rw [show i + 1 + j = i + (j + 1) by omega] at this
    rw [this]
    simp [e']
theorem l165_0 {n : Nat} (z : Zs) (l : List (List UInt8)) (hl : l.length < 1000) (hn : 20000 ≤ n) (i : Nat) (s : List UInt8) (hi : l[i]? = some s) (hs : s.length < 10000) (σ : Sto) : ∀ (k j m : Nat) (b : Qa), j + k = s.length → k < m →
  Qv 1 (JZ (cpJ PR n) (ciJ PR n) n (Zc z l) (.int .i64 i)) m [.int .i64 j, b] σ = if (s.drop j).all isL then some (.next 0 [.int .i64 ((i + 1 : Nat) : Int), b] σ) else some (.done (.bool false) σ) := by
 intro k
 induction k with
 | zero =>
  intro j m b hj hm
  obtain ⟨m, rfl⟩ : ∃ q, m = q + 1 := ⟨m - 1, by omega⟩
  have hj' : ¬ ((j : Int) < s.length) := by omega
  rw [List.drop_eq_nil_of_le (by omega)]
  refine YV ?_ (by decide)
  simp -implicitDefEqProofs [JZ, B165_0, hi, hj']
  exact Z3 (by have := (List.getElem?_eq_some_iff.1 hi).1; omega)
 | succ k ih =>
  intro j m b hj hm
  obtain ⟨m, rfl⟩ : ∃ q, m = q + 1 := ⟨m - 1, by omega⟩
  have hj' : ((j : Int) < s.length) := by omega
  obtain ⟨x, hx⟩ := Qz (by omega : j < s.length)
  have he := e170 (n := n) (by omega) x.toNat
  rw [QY hx]
  cases hb : chV x.toNat with
  | true =>
   rw [hb] at he
   rw [Qx (vs' := [.int .i64 ((j + 1 : Nat) : Int), b]) (σ' := σ) (by simp -implicitDefEqProofs [JZ, B165_0, hi, hj', hx, he]; exact Z3 (by omega)), ih (j + 1) m b (by omega) (by omega)]
   simp [isL, hb]
  | false =>
   rw [hb] at he
   rw [Qt (v := .bool false) (σ' := σ) (by simp -implicitDefEqProofs [JZ, B165_0, hi, hj', hx, he])]
   simp [isL, hb]
theorem l165_1 {n : Nat} (z : Zs) (l : List (List UInt8)) (hl : l.length < 1000) (hs : ∀ s ∈ l, s.length < 10000) (hn : 20000 ≤ n) (σ : Sto) : ∀ (k i m : Nat) (b : Qa), i + k = l.length → k < m →
  Qv 0 (VB (cpJ PR n) (ciJ PR n) n (Zc z l)) m [.int .i64 i, b] σ = some (.done (.bool (Vg (l.take i) (l.drop i))) σ) := by
 intro k
 induction k with
 | zero =>
  intro i m b hi hm
  obtain ⟨m, rfl⟩ : ∃ q, m = q + 1 := ⟨m - 1, by omega⟩
  have hi' : ¬ ((i : Int) < l.length) := by omega
  refine Qt ?_
  rw [List.drop_eq_nil_of_le (by omega)]
  simp -implicitDefEqProofs [VB, Gk, hi', Vg]
 | succ k ih =>
  intro i m b hi hm
  obtain ⟨m, rfl⟩ : ∃ q, m = q + 1 := ⟨m - 1, by omega⟩
  have hi' : ((i : Int) < l.length) := by omega
  obtain ⟨x, hx⟩ := Qz (by omega : i < l.length)
  have hxl := hs x (List.mem_of_getElem? hx)
  have h1 := e169 (n := n) z l x (by omega) (by omega)
  have h2 := idxAt_lt x l 0 i hx
  have h3 := l165_0 z l hl hn i x hx hxl σ x.length 0 n b (by omega) (by omega)
  simp only [Int.natCast_zero, List.drop_zero] at h3
  simp only [Nat.zero_add] at h2
  rw [QY hx, Vg, ← Zp hx]
  by_cases a1 : (x.length : Int) < 1
  ·refine Qt ?_
   have hx0 : x = [] := List.eq_nil_of_length_eq_zero (by omega)
   simp -implicitDefEqProofs [VB, Gk, hi', hx, a1]
   simp [Z5, GJ, hx0]
  ·by_cases a2 : (32 : Int) < x.length
   ·refine Qt ?_
    have : ¬ x.length ≤ 32 := by omega
    simp -implicitDefEqProofs [VB, Gk, hi', hx, a1, a2, Z5, this]
   ·by_cases a3 : x ∈ l.take i
    ·refine Qt ?_
     have a3' : Za x l 0 < (i : Int) := h2.2 a3
     simp -implicitDefEqProofs [VB, Gk, hi', hx, a1, a2, h1, a3', a3]
    ·have a3' : ¬ Za x l 0 < (i : Int) := λh=> a3 (h2.1 h)
     have hw : Z5 x = x.all isL := by
      have b1 : x.length ≤ 32 := by omega
      have b2 : x.isEmpty = false := by cases x with
       | nil => simp at a1
       | cons => rfl
      simp [Z5, GJ, b1, b2]
     have hstep : VB (cpJ PR n) (ciJ PR n) n (Zc z l) [.int .i64 i, b] σ = Qv 1 (JZ (cpJ PR n) (ciJ PR n) n (Zc z l) (.int .i64 i)) n [.int .i64 0, b] σ := by
      simp -implicitDefEqProofs [VB, Gk, hi', hx, a1, a2, h1, a3']
     rw [h3] at hstep
     rw [hw]
     cases hb : x.all isL with
     | true =>
      rw [hb] at hstep
      rw [if_pos rfl] at hstep
      rw [Qx hstep, ih (i + 1) m b (by omega) (by omega)]
      simp [a3]
     | false =>
      rw [hb] at hstep
      rw [if_neg (by decide)] at hstep
      rw [Qt hstep]
      simp
theorem e165 {n : Nat} (z : Zs) (l : List (List UInt8)) (hl : l.length < 1000) (hs : ∀ s ∈ l, s.length < 10000) (hn : 20001 ≤ n) (most : Int) : cpJ PR n 165 [Zc z l, .int .i64 most] = some (.bool (Xj most l)) := by
 obtain ⟨n, rfl⟩ : ∃ m, n = m + 1 := ⟨n - 1, by omega⟩
 have := l165_1 (n := n) z l hl hs (by omega) Qd l.length 0 n (.bool false) (by omega) (by omega)
 rw [u165]
 simp only [Int.natCast_zero, List.drop_zero, List.take_zero] at this
 by_cases h : most < l.length
 ·have h' : ¬ (l.length : Int) ≤ most := by omega
  simp -implicitDefEqProofs [D165, h, Xj, h']
 ·have h' : (l.length : Int) ≤ most := by omega
  simp -implicitDefEqProofs [D165, h, Xj, h', this]
theorem e157 {n : Nat} (z z' : Zs) (l l' : List (List UInt8)) (hl : l.length < 1000) (hs : ∀ s ∈ l, s.length < 10000) (hl' : l'.length < 1000) (hs' : ∀ s ∈ l', s.length < 10000) (hn : 20002 ≤ n) :
  cpJ PR n 157 [Zc z l, Zc z' l'] = some (.bool (Xj 16 l && Xj 64 l')) := by
 obtain ⟨n, rfl⟩ : ∃ m, n = m + 1 := ⟨n - 1, by omega⟩
 rw [u157]
 simp -implicitDefEqProofs +contextual [D157, e165 (n := n) z l hl hs (by omega), e165 (n := n) z' l' hl' hs' (by omega)]
end Go.Proofs.YtdibpeknpmhknaaGreat
namespace Go.Proofs.YtdibpeknpmhknaaGreat
open Go
def letV (x : Int) : Bool := decide (65 ≤ x) && decide (x ≤ 90) || decide (97 ≤ x) && decide (x ≤ 122) || (x == 95)
def digV (x : Int) : Bool := decide (48 ≤ x) && decide (x ≤ 57)
theorem e154 {n : Nat} (hn : 1 ≤ n) (x : Int) : cpJ PR n 154 [.int .u8 x] = some (.bool (letV x)) := by
 obtain ⟨n, rfl⟩ : ∃ m, n = m + 1 := ⟨n - 1, by omega⟩
 rw [u154]
 simp -implicitDefEqProofs +contextual [D154, letV]
theorem e155 {n : Nat} (hn : 1 ≤ n) (x : Int) : cpJ PR n 155 [.int .u8 x] = some (.bool (digV x)) := by
 obtain ⟨n, rfl⟩ : ∃ m, n = m + 1 := ⟨n - 1, by omega⟩
 rw [u155]
 simp -implicitDefEqProofs +contextual [D155, digV]
theorem ch_of {x : Int} (h : letV x = true ∨ digV x = true) : chV x = true := by
 unfold letV digV at h
 unfold chV
 simp only [Bool.or_eq_true, Bool.and_eq_true, decide_eq_true_eq, beq_iff_eq] at *
 omega
theorem QT {i m : Nat} (h : i < m) (hm : m ≤ maxLen) : IntKind.i64.wrap ((i : Int) + 1) = (i : Int) + 1 := by
 unfold maxLen at hm
 exact Ze (by omega) (by omega)
theorem l128 {n : Nat} (s w : Bs) (hw : w.length ≤ maxLen) (σ : Sto) : ∀ (k i f m : Nat) (u : Qa), i + k = w.length → f ≤ i → k < m →
  Ans (Qv 0 (L128_0 (cpJ PR n) (ciJ PR n) n (.str s) (.str w)) m [.int .i64 i, .int .i64 f, u] σ) (doneB any) := by
 intro k
 induction k with
 | zero =>
  intro i f m u hi hf hm
  obtain ⟨m, rfl⟩ : ∃ j, m = j + 1 := ⟨m - 1, by omega⟩
  have hi' : ¬ ((i : Int) < w.length) := by omega
  refine Q2 ?_
  simp -implicitDefEqProofs [L128_0, B128_0, hi']
 | succ k ih =>
  intro i f m u hi hf hm
  obtain ⟨m, rfl⟩ : ∃ j, m = j + 1 := ⟨m - 1, by omega⟩
  have hi' : ((i : Int) < w.length) := by omega
  obtain ⟨x, hx⟩ := Qz (by omega : i < w.length)
  have hwr := QT (by omega : i < w.length) hw
  have h1 := ih (i + 1) f m u (by omega) (by omega) (by omega)
  have h2 := ih (i + 1) (i + 1) m u (by omega) (by omega) (by omega)
  have h3 : (f : Int) ≤ i := by omega
  have h4 : (i : Int) ≤ w.length := by omega
  simp only [Int.natCast_add, Int.natCast_one] at h1 h2
  refine Q2 ?_
  simp -implicitDefEqProofs +contextual [L128_0, B128_0, hi', hx, hwr, h1, h2, h3, h4]
theorem e128 {n : Nat} (s w : Bs) (hw : w.length ≤ maxLen) (hn : w.length + 5 ≤ n) : ∃ b, cpJ PR n 128 [.str s, .str w] = some (.bool b) := by
 obtain ⟨n, rfl⟩ : ∃ m, n = m + 1 := ⟨n - 1, by omega⟩
 obtain ⟨b, σ, h, -⟩ := (l128 (n := n) s w hw Qd w.length 0 0 n (.bool false) (by omega) (by omega) (by omega)).doneB
 simp only [Int.natCast_zero] at h
 rw [u128]
 exact ⟨b, by simp -implicitDefEqProofs [D128, h]⟩
theorem kw_text : ∃ w : Bs, w.length ≤ 900 ∧ ∀ C I n x σ, D164 C I n x σ = @bnd (Qi C 128 [x, .str w]) ⟨λx1=> Qp (Qg [x1]) σ⟩ :=
 ⟨_, by decide, fun _ _ _ _ _ => rfl⟩
theorem e164 {n : Nat} (s : Bs) (hn : 1000 ≤ n) : ∃ b, cpJ PR n 164 [.str s] = some (.bool b) := by
 obtain ⟨n, rfl⟩ : ∃ m, n = m + 1 := ⟨n - 1, by omega⟩
 obtain ⟨w, hw, hD⟩ := kw_text
 obtain ⟨b, hb⟩ := e128 (n := n) s w (by unfold maxLen; omega) (by omega)
 rw [u164, hD]
 exact ⟨b, by simp -implicitDefEqProofs [hb]⟩
theorem l125 {n : Nat} (hn : 1 ≤ n) (s : Bs) (hs : s.length ≤ maxLen) (σ : Sto) : ∀ (k i m : Nat) (u : Qa), i + k = s.length → k < m → (s.take i).all isL = true →
  Ans (Qv 0 (UL (cpJ PR n) (ciJ PR n) n (.str s)) m [.int .i64 i, u] σ) (doneB λb=> b = true → Z5 s = true) := by
 intro k
 induction k with
 | zero =>
  intro i m u hi hm ha
  obtain ⟨m, rfl⟩ : ∃ j, m = j + 1 := ⟨m - 1, by omega⟩
  have hi' : ¬ ((i : Int) < s.length) := by omega
  rw [List.take_of_length_le (by omega)] at ha
  refine Q2 ?_
  simp -implicitDefEqProofs +contextual [UL, HK, hi', Z5, GJ, ha]
  intro h1 h2
  exact ⟨by omega, λe=> by rw [e] at h1; simp at h1⟩
 | succ k ih =>
  intro i m u hi hm ha
  obtain ⟨m, rfl⟩ : ∃ j, m = j + 1 := ⟨m - 1, by omega⟩
  have hi' : ((i : Int) < s.length) := by omega
  obtain ⟨x, hx⟩ := Qz (by omega : i < s.length)
  have hwr := QT (by omega : i < s.length) hs
  have h1 := e154 hn x.toNat
  have h2 := e155 hn x.toNat
  have h3 : (letV x.toNat = true ∨ digV x.toNat = true) → Ans (Qv 0 (UL (cpJ PR n) (ciJ PR n) n (.str s)) m [.int .i64 ((i : Int) + 1), u] σ) (doneB λb=> b = true → Z5 s = true) := by
   intro h
   refine ih (i + 1) m u (by omega) (by omega) ?_
   rw [Zp hx, List.all_append, ha]
   simp [isL, ch_of h]
  refine Q2 ?_
  cases hl : letV x.toNat with
  | true =>
   rw [hl] at h1
   have h3 := h3 (.inl hl)
   simp -implicitDefEqProofs [UL, HK, hi', hx, hwr, h1, h3]
  | false =>
   rw [hl] at h1
   cases hd : digV x.toNat with
   | true =>
    rw [hd] at h2
    have h3 := h3 (.inr hd)
    generalize hq : ((i : Int) == 0) = q
    cases q <;> simp -implicitDefEqProofs [UL, HK, hi', hx, hwr, h1, h2, h3, hq, -beq_iff_eq, -Int.natCast_eq_zero]
   | false =>
    rw [hd] at h2
    generalize hq : ((i : Int) == 0) = q
    cases q <;> simp -implicitDefEqProofs [UL, HK, hi', hx, hwr, h1, h2, hq, -beq_iff_eq, -Int.natCast_eq_zero]
theorem e118 {n : Nat} (s : Bs) (hs : s.length ≤ maxLen) (hn : maxLen + 1100 ≤ n) : ∃ b, cpJ PR n 118 [.str s] = some (.bool b) ∧ (b = true → Z5 s = true) := by
 obtain ⟨n, rfl⟩ : ∃ m, n = m + 3 := ⟨n - 3, by omega⟩
 obtain ⟨b, σ, h, hb⟩ := (l125 (n := n) (by omega) s hs Qd s.length 0 n (.bool false) (by omega) (by omega) (by simp)).doneB
 obtain ⟨b', h'⟩ := e164 (n := n + 1) s (by omega)
 simp only [Int.natCast_zero] at h
 have h1 : cpJ PR (n + 1) 125 [.str s] = some (.bool b) := by
  rw [u125]
  simp -implicitDefEqProofs [D125, h]
 have h2 : cpJ PR (n + 2) 149 [.str s] = some (.bool (b && !b')) := by
  rw [u149]
  cases b <;> simp -implicitDefEqProofs [D149, h1, h']
 refine ⟨b && !b', ?_, λh=> hb (by simp only [Bool.and_eq_true] at h; exact h.1)⟩
 rw [u118]
 simp -implicitDefEqProofs [D118, h2]
theorem l119 {n : Nat} (z : Zs) (l : List Bs) (s : Bs) (hl : l.length ≤ maxLen) (σ : Sto) : ∀ (k i m : Nat) (u : Qa), i + k = l.length → k < m →
  Qv 0 (Er (cpJ PR n) (ciJ PR n) n (.str s) (Zc z l)) m [.int .i64 i, u] σ = some (.done (.bool (decide (s ∈ l.drop i))) σ) := by
 intro k
 induction k with
 | zero =>
  intro i m u hi hm
  obtain ⟨m, rfl⟩ : ∃ j, m = j + 1 := ⟨m - 1, by omega⟩
  have hi' : ¬ ((i : Int) < l.length) := by omega
  refine Qt ?_
  rw [List.drop_eq_nil_of_le (by omega)]
  simp -implicitDefEqProofs [Er, B119_0, hi']
 | succ k ih =>
  intro i m u hi hm
  obtain ⟨m, rfl⟩ : ∃ j, m = j + 1 := ⟨m - 1, by omega⟩
  have hi' : ((i : Int) < l.length) := by omega
  obtain ⟨x, hx⟩ := Qz (by omega : i < l.length)
  have hwr := QT (by omega : i < l.length) hl
  rw [QY hx]
  by_cases e : x = s
  ·subst e
   refine Qt ?_
   simp -implicitDefEqProofs [Er, B119_0, hi', hx]
  ·have e' : ¬ s = x := λh=> e h.symm
   refine (Qx (vs' := [.int .i64 ((i + 1 : Nat) : Int), u]) (σ' := σ) ?_).trans ((ih (i + 1) m u (by omega) (by omega)).trans ?_)
   ·simp -implicitDefEqProofs [Er, B119_0, hi', hx, e, hwr]
   ·simp [e']
theorem e119 {n : Nat} (z : Zs) (l : List Bs) (s : Bs) (hl : l.length ≤ maxLen) (hn : l.length + 5 ≤ n) : cpJ PR n 119 [.str s, Zc z l] = some (.bool (decide (s ∈ l))) := by
 obtain ⟨n, rfl⟩ : ∃ m, n = m + 1 := ⟨n - 1, by omega⟩
 have h := l119 (n := n) z l s hl Qd l.length 0 n (.bool false) (by omega) (by omega)
 simp only [Int.natCast_zero, List.drop_zero] at h
 rw [u119]
 simp -implicitDefEqProofs [D119, h]
structure Xz (l o : List Bs) : Prop where
 ok : ∀ s ∈ l, Z5 s = true
 nd : l.Nodup
 no : ∀ s ∈ l, s ∉ o
theorem l80 {n : Nat} (hn : maxLen + 1100 ≤ n) (z z' : Zs) (l o : List Bs) (hl : l.length ≤ maxLen) (hs : ∀ s ∈ l, s.length ≤ maxLen) (ho : o.length ≤ maxLen) (σ : Sto) : ∀ (k i m : Nat) (u : Qa), i + k = l.length → k < m → Xz (l.take i) o →
  Ans (Qv 0 (GN (cpJ PR n) (ciJ PR n) n (Zc z l) (Zc z' o)) m [.int .i64 i, u] σ) (doneI λe=> e = 0 → Xz l o) := by
 intro k
 induction k with
 | zero =>
  intro i m u hi hm hN
  obtain ⟨m, rfl⟩ : ∃ j, m = j + 1 := ⟨m - 1, by omega⟩
  have hi' : ¬ ((i : Int) < l.length) := by omega
  rw [List.take_of_length_le (by omega)] at hN
  refine Q2 ?_
  simp -implicitDefEqProofs [GN, B80_0, hi', hN]
 | succ k ih =>
  intro i m u hi hm hN
  obtain ⟨m, rfl⟩ : ∃ j, m = j + 1 := ⟨m - 1, by omega⟩
  have hi' : ((i : Int) < l.length) := by omega
  have hle : i ≤ l.length := by omega
  obtain ⟨x, hx⟩ := Qz (by omega : i < l.length)
  have hwr := QT (by omega : i < l.length) hl
  obtain ⟨b, h1, hb⟩ := e118 (n := n) x (hs x (List.mem_of_getElem? hx)) hn
  have h2 := e119 (n := n) (z.part (l.map λs=> [Qa.str s])) (l.take i) x (by rw [List.length_take]; omega) (by rw [List.length_take]; omega)
  have h3 := e119 (n := n) z' o x ho (by omega)
  simp only [Zc, List.map_take] at h2
  have h4 : b = true → x ∉ l.take i → x ∉ o → Ans (Qv 0 (GN (cpJ PR n) (ciJ PR n) n (Zc z l) (Zc z' o)) m [.int .i64 ((i : Int) + 1), u] σ) (doneI λe=> e = 0 → Xz l o) := by
   intro q1 q2 q3
   refine ih (i + 1) m u (by omega) (by omega) ?_
   rw [Zp hx]
   refine ⟨fun s h => ?_, ?_, fun s h => ?_⟩
   ·rcases List.mem_append.1 h with h | h
    ·exact hN.ok s h
    ·rw [List.mem_singleton.1 h]; exact hb q1
   ·rw [List.nodup_append]
    exact ⟨hN.nd, by simp, fun a ha b hb e => q2 (by rw [List.mem_singleton] at hb; rw [← hb, ← e]; exact ha)⟩
   ·rcases List.mem_append.1 h with h | h
    ·exact hN.no s h
    ·rw [List.mem_singleton.1 h]; exact q3
  refine Q2 ?_
  cases b with
  | false => simp -implicitDefEqProofs [GN, B80_0, hi', hx, h1]
  | true =>
   by_cases q2 : x ∈ l.take i
   ·simp only [q2, decide_true] at h2
    simp -implicitDefEqProofs [GN, B80_0, hi', hx, h1, hle, h2]
   ·simp only [q2, decide_false] at h2
    by_cases q3 : x ∈ o
    ·simp only [q3, decide_true] at h3
     simp -implicitDefEqProofs [GN, B80_0, hi', hx, h1, hle, h2, h3]
    ·simp only [q3, decide_false] at h3
     have h4 := h4 rfl q2 q3
     simp -implicitDefEqProofs [GN, B80_0, hi', hx, h1, hle, h2, h3, hwr, h4]
theorem e80 {n : Nat} (hn : maxLen + 1200 ≤ n) (z z' : Zs) (l o : List Bs) (hl : l.length ≤ maxLen) (hs : ∀ s ∈ l, s.length ≤ maxLen) (ho : o.length ≤ maxLen) :
  ∃ e, cpJ PR n 80 [Zc z l, Zc z' o] = some (.int .i64 e) ∧ (e = 0 → Xz l o) := by
 obtain ⟨n, rfl⟩ : ∃ m, n = m + 1 := ⟨n - 1, by omega⟩
 obtain ⟨e, σ, h, he⟩ := (l80 (n := n) (by omega) z z' l o hl hs ho Qd l.length 0 n (.int .i64 0) (by omega) (by omega) ⟨by simp, by simp, by simp⟩).doneI
 simp only [Int.natCast_zero] at h
 refine ⟨e, ?_, he⟩
 rw [u80]
 simp -implicitDefEqProofs [D80, h]
end Go.Proofs.YtdibpeknpmhknaaGreat
namespace Go.Proofs.YtdibpeknpmhknaaGreat
open Go
@[simp] theorem nlt0 (a : Nat) : ((a : Int) < 0) = False := eq_false (by omega)
def ZK (i n : Int) : Bool := decide (0 ≤ i) && decide (i < n)
theorem e92 {n : Nat} (hn : 1 ≤ n) (i m : Int) : cpJ PR n 92 [.int .i64 i, .int .i64 m] = some (.bool (ZK i m)) := by
 obtain ⟨n, rfl⟩ : ∃ m, n = m + 1 := ⟨n - 1, by omega⟩
 rw [u92]
 simp -implicitDefEqProofs +contextual [D92, ZK]
theorem e88 {n : Nat} (hn : 1 ≤ n) (l m : LvV) : ∃ b, cpJ PR n 88 [l.d, m.d] = some (.bool b) := by
 obtain ⟨n, rfl⟩ : ∃ m, n = m + 1 := ⟨n - 1, by omega⟩
 have : Ans (cpJ PR (n + 1) 88 [l.d, m.d]) (isB any) := by
  rw [u88]
  simp -implicitDefEqProofs +contextual [D88]
 obtain ⟨b, h, -⟩ := this.bool
 exact ⟨b, h⟩
theorem e87 {n : Nat} (hn : 2 ≤ n) (p : Qw) (l : LvV) : ∃ b, cpJ PR n 87 [p.d, l.d] = some (.bool b) := by
 obtain ⟨n, rfl⟩ : ∃ m, n = m + 1 := ⟨n - 1, by omega⟩
 have h1 := e92 (n := n) (by omega) l.s p.sens.l.length
 have : Ans (cpJ PR (n + 1) 87 [p.d, l.d]) (isB any) := by
  rw [u87]
  simp -implicitDefEqProofs +contextual [D87, h1]
 obtain ⟨b, h, -⟩ := this.bool
 exact ⟨b, h⟩
theorem e86 {n : Nat} (hn : 3 ≤ n) (p : Qw) (l m : LvV) : ∃ b, cpJ PR n 86 [p.d, Yj l m] = some (.bool b) := by
 obtain ⟨n, rfl⟩ : ∃ m, n = m + 1 := ⟨n - 1, by omega⟩
 obtain ⟨b1, h1⟩ := e87 (n := n) (by omega) p l
 obtain ⟨b2, h2⟩ := e87 (n := n) (by omega) p m
 obtain ⟨b3, h3⟩ := e88 (n := n) (by omega) m l
 have : Ans (cpJ PR (n + 1) 86 [p.d, Yj l m]) (isB any) := by
  rw [u86]
  simp -implicitDefEqProofs +contextual [D86, h1, h2, h3]
 obtain ⟨b, h, -⟩ := this.bool
 exact ⟨b, h⟩
def zeroD : Qa := .agg [.int .u64 0, .int .u64 0, .int .u64 0, .int .u64 0]
theorem build0 (C : Qj) : POp.sem C [] (.build [.int .u64 0, .int .u64 0, .int .u64 0, .int .u64 0] []) = some zeroD := rfl
theorem JG (neg : Bool) (s : Q_) : ∃ b, QZ neg [.i .u64, .i .u64, .i .u64, .i .u64] [s.d, zeroD] = some (.bool b) := by
 unfold zeroD Q_.d Q_.row
 cases neg <;> simp -implicitDefEqProofs
theorem e82 {n : Nat} (hn : 400 ≤ n) (s : Q_) (q : Nat) (hq : q < 9223372036854775808) : ∃ a b, cpJ PR n 82 [s.d, .int .i64 q] = some (.tup [.bool a, .bool b]) := by
 obtain ⟨n, rfl⟩ : ∃ m, n = m + 1 := ⟨n - 1, by omega⟩
 have h1 := e83 (n := n) (by omega) q hq
 have h2 := e84 (n := n) (by omega) s (JX (min q 256))
 obtain ⟨a, h3⟩ := JG true s
 refine ⟨a, withinS s (JX (min q 256)), ?_⟩
 rw [u82]
 simp -implicitDefEqProofs [D82, h1, h2, h3, build0, -QZ.eq_1, -POp.sem.eq_17]
theorem e85 {n : Nat} (hn : 400 ≤ n) (p : Qw) (hp : p.roles.l.length < 9223372036854775808) (s : Q_) : ∃ b, cpJ PR n 85 [p.d, s.d] = some (.bool b) := by
 obtain ⟨n, rfl⟩ : ∃ m, n = m + 1 := ⟨n - 1, by omega⟩
 have h1 := e83 (n := n) (by omega) p.roles.l.length hp
 have h2 := e122 (n := n) (by omega) (JX (min p.roles.l.length 256)) 0 (by omega)
 have h3 := e84 (n := n) (by omega) s (outS (JX (min p.roles.l.length 256)) 0)
 simp only [Int.natCast_zero] at h2
 rw [u85]
 exact ⟨_, by simp -implicitDefEqProofs [D85, h1, h2, h3]; rfl⟩
theorem e90 {n : Nat} (hn : 2 ≤ n) (p : Qw) (c : Int) (v : Nat) : ∃ b, cpJ PR n 90 [p.d, .int .i64 c, .int .u32 v] = some (.bool b) := by
 obtain ⟨n, rfl⟩ : ∃ m, n = m + 1 := ⟨n - 1, by omega⟩
 have h1 := e92 (n := n) (by omega) c p.classes.l.length
 have : Ans (cpJ PR (n + 1) 90 [p.d, .int .i64 c, .int .u32 v]) (isB any) := by
  rw [u90]
  cases hb : ZK c p.classes.l.length with
  | false =>
   rw [hb] at h1
   simp -implicitDefEqProofs +contextual [D90, h1]
  | true =>
   rw [hb] at h1
   simp only [ZK, Bool.and_eq_true, decide_eq_true_eq] at hb
   obtain ⟨k, rfl⟩ : ∃ k : Nat, c = k := ⟨c.toNat, by omega⟩
   obtain ⟨x, hx⟩ := Qz (l := p.classes.l) (i := k) (by omega)
   simp -implicitDefEqProofs +contextual [D90, h1, hx]
 obtain ⟨b, h, -⟩ := this.bool
 exact ⟨b, h⟩
theorem e91 {n : Nat} (hn : 2 ≤ n) (p : Qw) (c : Int) : ∃ b, cpJ PR n 91 [p.d, .int .i64 c] = some (.bool b) := by
 obtain ⟨n, rfl⟩ : ∃ m, n = m + 1 := ⟨n - 1, by omega⟩
 have : Ans (cpJ PR (n + 1) 91 [p.d, .int .i64 c]) (isB any) := by
  rw [u91]
  simp -implicitDefEqProofs +contextual [D91]
 obtain ⟨b, h, -⟩ := this.bool
 exact ⟨b, h⟩
theorem l93 {n : Nat} (s : Bs) (hs : s.length ≤ maxLen) (σ : Sto) : ∀ (k i m : Nat) (u : Qa), i + k = s.length → k < m →
  Ans (Qv 0 (L93_0 (cpJ PR n) (ciJ PR n) n (.str s)) m [.int .i64 i, u] σ) (doneB any) := by
 intro k
 induction k with
 | zero =>
  intro i m u hi hm
  obtain ⟨m, rfl⟩ : ∃ j, m = j + 1 := ⟨m - 1, by omega⟩
  have hi' : ¬ ((i : Int) < s.length) := by omega
  refine Q2 ?_
  simp -implicitDefEqProofs +contextual [L93_0, B93_0, hi']
 | succ k ih =>
  intro i m u hi hm
  obtain ⟨m, rfl⟩ : ∃ j, m = j + 1 := ⟨m - 1, by omega⟩
  have hi' : ((i : Int) < s.length) := by omega
  obtain ⟨x, hx⟩ := Qz (by omega : i < s.length)
  have hwr := QT (by omega : i < s.length) hs
  have h1 := ih (i + 1) m u (by omega) (by omega)
  simp only [Int.natCast_add, Int.natCast_one] at h1
  refine Q2 ?_
  simp -implicitDefEqProofs +contextual [L93_0, B93_0, hi', hx, hwr, h1]
theorem e93 {n : Nat} (hn : maxLen + 10 ≤ n) (s : Bs) (hs : s.length ≤ maxLen) : ∃ b, cpJ PR n 93 [.str s] = some (.bool b) := by
 obtain ⟨n, rfl⟩ : ∃ m, n = m + 1 := ⟨n - 1, by omega⟩
 obtain ⟨b, σ, h, -⟩ := (l93 (n := n) s hs Qd s.length 0 n (.bool false) (by omega) (by omega)).doneB
 simp only [Int.natCast_zero] at h
 exact ⟨b, by rw [u93]; simp -implicitDefEqProofs [D93, h]⟩
theorem l127 {n : Nat} (s : Bs) (hs : s.length ≤ maxLen) (σ : Sto) : ∀ (k i m : Nat) (u : Qa), i + k = s.length → k < m →
  Ans (Qv 0 (L127_0 (cpJ PR n) (ciJ PR n) n (.str s)) m [.int .i64 i, u] σ) (doneB any) := by
 intro k
 induction k with
 | zero =>
  intro i m u hi hm
  obtain ⟨m, rfl⟩ : ∃ j, m = j + 1 := ⟨m - 1, by omega⟩
  have hi' : ¬ ((i : Int) < s.length) := by omega
  refine Q2 ?_
  simp -implicitDefEqProofs +contextual [L127_0, B127_0, hi']
 | succ k ih =>
  intro i m u hi hm
  obtain ⟨m, rfl⟩ : ∃ j, m = j + 1 := ⟨m - 1, by omega⟩
  have hi' : ((i : Int) < s.length) := by omega
  obtain ⟨x, hx⟩ := Qz (by omega : i < s.length)
  have hwr := QT (by omega : i < s.length) hs
  have h1 := ih (i + 1) m u (by omega) (by omega)
  simp only [Int.natCast_add, Int.natCast_one] at h1
  refine Q2 ?_
  simp -implicitDefEqProofs +contextual [L127_0, B127_0, hi', hx, hwr, h1]
theorem e96 {n : Nat} (hn : maxLen + 10 ≤ n) (s : Bs) (hs : s.length ≤ maxLen) (x y : Qa) (hx : x.sealCell = some x) (hy : y.sealCell = some y) (hx1 : x.okCell = true) (hy1 : y.okCell = true) :
  ∃ b, cpJ PR n 96 [.agg [.int .i64 3, .str s, x, y]] = some (.bool b) := by
 obtain ⟨n, rfl⟩ : ∃ m, n = m + 2 := ⟨n - 2, by omega⟩
 obtain ⟨b, σ, h, -⟩ := (l127 (n := n) s hs Qd s.length 0 n (.bool false) (by omega) (by omega)).doneB
 simp only [Int.natCast_zero] at h
 have h1 : cpJ PR (n + 1) 127 [.str s] = some (.bool b) := by rw [u127]; simp -implicitDefEqProofs [D127, h]
 exact ⟨b, by rw [u96]; simp -implicitDefEqProofs [D96, h1, hx1, hy1]⟩
theorem e150 {n : Nat} (hn : 1 ≤ n) (k : Int) : ∃ i, cpJ PR n 150 [.int .i64 k] = some (.int .i64 i) := by
 obtain ⟨n, rfl⟩ : ∃ m, n = m + 1 := ⟨n - 1, by omega⟩
 have : Ans (cpJ PR (n + 1) 150 [.int .i64 k]) (isI any) := by
  rw [u150]
  refine Zw ?_
  simp -implicitDefEqProofs [D150, JR, L150_0, J150_0]
 obtain ⟨b, h, -⟩ := this.int
 exact ⟨b, h⟩
theorem e153 {n : Nat} (hn : 1 ≤ n) (p : Qw) (k : Int) : ∃ i, cpJ PR n 153 [p.d, .int .i64 k] = some (.int .i64 i) ∧ (i = p.users.l.length ∨ i = p.roles.l.length ∨ i = p.types.l.length ∨ i = -1) := by
 obtain ⟨n, rfl⟩ : ∃ m, n = m + 1 := ⟨n - 1, by omega⟩
 have : Ans (cpJ PR (n + 1) 153 [p.d, .int .i64 k]) (isI λi=> i = p.users.l.length ∨ i = p.roles.l.length ∨ i = p.types.l.length ∨ i = -1) := by
  rw [u153]
  refine Zw ?_
  simp -implicitDefEqProofs [D153]
 obtain ⟨b, h, h2⟩ := this.int
 exact ⟨b, h, h2⟩
theorem e95 {n : Nat} (hn : 10 ≤ n) (p : Qw) (c : Q3) : ∃ i, cpJ PR n 95 [p.d, c.d] = some (.int .i64 i) := by
 obtain ⟨n, rfl⟩ : ∃ m, n = m + 1 := ⟨n - 1, by omega⟩
 have h1 := e92 (n := n) (by omega) c.user p.users.l.length
 have h2 := e92 (n := n) (by omega) c.role p.roles.l.length
 have h3 := e92 (n := n) (by omega) c.type p.types.l.length
 obtain ⟨b4, h4⟩ := e86 (n := n) (by omega) p c.lo c.hi
 have : Ans (cpJ PR (n + 1) 95 [p.d, c.d]) (isI any) := by
  rw [u95]
  refine Zw ?_
  by_cases hb : ZK c.user p.users.l.length = true ∧ ZK c.role p.roles.l.length = true ∧ ZK c.type p.types.l.length = true
  ·obtain ⟨hb1, hb2, hb3⟩ := hb
   rw [hb1] at h1
   rw [hb2] at h2
   rw [hb3] at h3
   simp only [ZK, Bool.and_eq_true, decide_eq_true_eq] at hb1 hb2
   obtain ⟨i, hi⟩ : ∃ i : Nat, c.user = i := ⟨c.user.toNat, by omega⟩
   obtain ⟨j, hj⟩ : ∃ i : Nat, c.role = i := ⟨c.role.toNat, by omega⟩
   obtain ⟨x, hx⟩ := Qz (l := p.users.l) (i := i) (by omega)
   obtain ⟨y, hy⟩ := Qz (l := p.roles.l) (i := j) (by omega)
   have h5 := e103 (n := n) (by omega) x.roles c.role
   have h6 := e103 (n := n) (by omega) y.types c.type
   obtain ⟨b7, h7⟩ := e88 (n := n) (by omega) c.lo x.lo
   obtain ⟨b8, h8⟩ := e88 (n := n) (by omega) x.hi c.hi
   rw [hi] at h1
   rw [hj] at h2 h5
   simp -implicitDefEqProofs +contextual [D95, h1, h2, h3, h4, h5, h6, h7, h8, hi, hj, hx, hy]
  ·cases q1 : ZK c.user p.users.l.length <;> rw [q1] at h1 <;> cases q2 : ZK c.role p.roles.l.length <;> rw [q2] at h2 <;> cases q3 : ZK c.type p.types.l.length <;> rw [q3] at h3 <;> first
    | (simp -implicitDefEqProofs +contextual [D95, h1, h2, h3]; done)
    | (simp [q1, q2, q3] at hb; done)
 obtain ⟨b, h, -⟩ := this.int
 exact ⟨b, h⟩
end Go.Proofs.YtdibpeknpmhknaaGreat
namespace Go.Proofs.YtdibpeknpmhknaaGreat
open Go
inductive QG.Fit : Nat → QG → Prop where
 | mk {d : Nat} {op a rel b : Int} {names : Sl Bs} {set : Q_} {kz : Zs} {kids : List QG} : kids.length ≤ maxLen → (∀ e ∈ kids, QG.Fit d e) → QG.Fit (d + 1) (.mk op a rel b names set kz kids)
theorem e151 {n : Nat} (hn : 3 ≤ n) (e : QG) : ∃ b, cpJ PR n 151 [e.d] = some (.bool b) := by
 obtain ⟨n, rfl⟩ : ∃ m, n = m + 1 := ⟨n - 1, by omega⟩
 obtain ⟨op, a, rel, b, names, set, kz, kids, rfl⟩ := Xp e
 obtain ⟨k, h1⟩ := e150 (n := n) (by omega) op
 obtain ⟨k2, h3⟩ := e150 (n := n) (by omega) 2
 obtain ⟨k3, h4⟩ := e150 (n := n) (by omega) 3
 obtain ⟨k4, h5⟩ := e150 (n := n) (by omega) 4
 obtain ⟨c, h2⟩ := JG false set
 have : Ans (cpJ PR (n + 1) 151 [(QG.mk op a rel b names set kz kids).d]) (isB any) := by
  rw [u151]
  refine Zw ?_
  simp -implicitDefEqProofs +contextual [D151, JR, L151_0, J151_0, h1, h2, h3, h4, h5, build0, -QZ.eq_1, -POp.sem.eq_17]
 obtain ⟨b, h, -⟩ := this.bool
 exact ⟨b, h⟩
theorem e152 {n : Nat} (hn : 3 ≤ n) (e : QG) (m : Int) : ∃ i, cpJ PR n 152 [e.d, .int .i64 m] = some (.int .i64 i) := by
 obtain ⟨n, rfl⟩ : ∃ m, n = m + 1 := ⟨n - 1, by omega⟩
 obtain ⟨op, a, rel, b, names, set, kz, kids, rfl⟩ := Xp e
 have h1 := e92 (n := n) (by omega) a m
 have h2 := e92 (n := n) (by omega) b m
 have h3 := e92 (n := n) (by omega) rel 5
 have : Ans (cpJ PR (n + 1) 152 [(QG.mk op a rel b names set kz kids).d, .int .i64 m]) (isI any) := by
  rw [u152]
  refine Zw ?_
  simp -implicitDefEqProofs +contextual [D152, h1, h2, h3]
 obtain ⟨b, h, -⟩ := this.int
 exact ⟨b, h⟩
theorem e79 : ∀ {d n : Nat} {e : QG} (_ : e.Fit d) (_ : maxLen + 10 + d ≤ n) (m : Int), ∃ i, cpJ PR n 79 [e.d, .int .i64 m] = some (.int .i64 i) := by
 intro d
 induction d with
 | zero => intro n e he; cases he
 | succ d IH =>
  intro n e he hn mo
  cases he with
  | mk hk hf =>
  rename_i op a rel b names set kz kids
  obtain ⟨n, rfl⟩ : ∃ m, n = m + 1 := ⟨n - 1, by omega⟩
  have l : ∀ (k i m : Nat) (u : Int) (σ : Sto), i + k = kids.length → k < m →
    Ans (Qv 0 (L79_0 (cpJ PR n) (ciJ PR n) n (.int .i64 mo) (QG.mk op a rel b names set kz kids).d) m [.int .i64 i, .int .i64 u] σ) (doneI any) := by
   intro k
   induction k with
   | zero =>
    intro i m u σ hi hm
    obtain ⟨m, rfl⟩ : ∃ j, m = j + 1 := ⟨m - 1, by omega⟩
    have hi' : ¬ ((i : Int) < kids.length) := by omega
    refine Q2 ?_
    simp -implicitDefEqProofs [L79_0, B79_0, hi']
   | succ k ih =>
    intro i m u σ hi hm
    obtain ⟨m, rfl⟩ : ∃ j, m = j + 1 := ⟨m - 1, by omega⟩
    have hi' : ((i : Int) < kids.length) := by omega
    obtain ⟨x, hx⟩ := Qz (l := kids) (by omega : i < kids.length)
    have hwr := QT (by omega : i < kids.length) hk
    obtain ⟨j, hj⟩ := IH (n := n) (hf x (List.mem_of_getElem? hx)) (by omega) (IntKind.i64.wrap (mo - 1))
    have h1 : ∀ u, Ans (Qv 0 (L79_0 (cpJ PR n) (ciJ PR n) n (.int .i64 mo) (QG.mk op a rel b names set kz kids).d) m [.int .i64 ((i : Int) + 1), .int .i64 u] σ) (doneI any) := λu=> ih (i + 1) m u σ (by omega) (by omega)
    refine Q2 ?_
    simp -implicitDefEqProofs [L79_0, B79_0, hi', hx, hwr, hj, h1]
  obtain ⟨i, σ, h, -⟩ := (l kids.length 0 n 0 Qd (by omega) (by omega)).doneI
  have : Ans (cpJ PR (n + 1) 79 [(QG.mk op a rel b names set kz kids).d, .int .i64 mo]) (isI any) := by
   rw [u79]
   refine Zw ?_
   simp only [Int.natCast_zero] at h
   simp -implicitDefEqProofs [D79, h]
  obtain ⟨b, h, -⟩ := this.int
  exact ⟨b, h⟩
theorem e47 {d n : Nat} {e : QG} (he : e.Fit d) (hn : maxLen + 20 + d ≤ n) : ∃ i, cpJ PR n 47 [e.d] = some (.int .i64 i) := by
 obtain ⟨n, rfl⟩ : ∃ m, n = m + 1 := ⟨n - 1, by omega⟩
 obtain ⟨i, h⟩ := e79 (n := n) he (by omega) 13
 exact ⟨i, by rw [u47]; simp -implicitDefEqProofs [D47, h]⟩
theorem e123 (p : Qw) : ∀ {d n : Nat} {e : QG} (_ : e.Fit d) (_ : maxLen + 20 + d ≤ n), ∃ i, cpJ PR n 123 [p.d, e.d] = some (.int .i64 i) := by
 intro d
 induction d with
 | zero => intro n e he; cases he
 | succ d IH =>
  intro n e he hn
  cases he with
  | mk hk hf =>
  rename_i op a rel b names set kz kids
  obtain ⟨n, rfl⟩ : ∃ m, n = m + 1 := ⟨n - 1, by omega⟩
  have l : ∀ (k i m : Nat) (u : Qa) (σ : Sto), i + k = kids.length → k < m →
    Ans (Qv 0 (Hz (cpJ PR n) (ciJ PR n) n p.d (QG.mk op a rel b names set kz kids).d) m [.int .i64 i, u] σ) (doneI any) := by
   intro k
   induction k with
   | zero =>
    intro i m u σ hi hm
    obtain ⟨m, rfl⟩ : ∃ j, m = j + 1 := ⟨m - 1, by omega⟩
    have hi' : ¬ ((i : Int) < kids.length) := by omega
    refine Q2 ?_
    simp -implicitDefEqProofs [Hz, B123_0, hi']
   | succ k ih =>
    intro i m u σ hi hm
    obtain ⟨m, rfl⟩ : ∃ j, m = j + 1 := ⟨m - 1, by omega⟩
    have hi' : ((i : Int) < kids.length) := by omega
    obtain ⟨x, hx⟩ := Qz (l := kids) (by omega : i < kids.length)
    have hwr := QT (by omega : i < kids.length) hk
    obtain ⟨j, hj⟩ := IH (n := n) (hf x (List.mem_of_getElem? hx)) (by omega)
    have h1 : ∀ u, Ans (Qv 0 (Hz (cpJ PR n) (ciJ PR n) n p.d (QG.mk op a rel b names set kz kids).d) m [.int .i64 ((i : Int) + 1), u] σ) (doneI any) := λu=> ih (i + 1) m u σ (by omega) (by omega)
    refine Q2 ?_
    simp -implicitDefEqProofs [Hz, B123_0, hi', hx, hwr, hj, h1]
  obtain ⟨i, σ, h, -⟩ := (l kids.length 0 n (.int .i64 0) Qd (by omega) (by omega)).doneI
  obtain ⟨k1, h1⟩ := e150 (n := n) (by omega) op
  obtain ⟨c, h2⟩ := JG true set
  have h3 := e92 (n := n) (by omega) a p.bools.l.length
  have : Ans (cpJ PR (n + 1) 123 [p.d, (QG.mk op a rel b names set kz kids).d]) (isI any) := by
   rw [u123]
   refine Zw ?_
   simp only [Int.natCast_zero] at h
   simp -implicitDefEqProofs +contextual [D123, h, h1, h2, h3, build0, -QZ.eq_1, -POp.sem.eq_17]
   intro _ _ _ hr hb _ _ _ _
   subst hr hb
   simp [h]
  obtain ⟨b, h, -⟩ := this.int
  exact ⟨b, h⟩
theorem e89 {d n : Nat} (p : Qw) {e : QG} (he : e.Fit d) (hn : maxLen + 30 + d ≤ n) : ∃ i, cpJ PR n 89 [p.d, e.d] = some (.int .i64 i) := by
 obtain ⟨n, rfl⟩ : ∃ m, n = m + 1 := ⟨n - 1, by omega⟩
 obtain ⟨i, h1⟩ := e47 (n := n) he (by omega)
 obtain ⟨j, h2⟩ := e123 p (n := n) he (by omega)
 have : Ans (cpJ PR (n + 1) 89 [p.d, e.d]) (isI any) := by
  rw [u89]
  refine Zw ?_
  simp -implicitDefEqProofs [D89, h1, h2]
 obtain ⟨b, h, -⟩ := this.int
 exact ⟨b, h⟩
structure Short (p : Qw) : Prop where
 users : p.users.l.length < 9223372036854775808
 roles : p.roles.l.length < 9223372036854775808
 types : p.types.l.length < 9223372036854775808
theorem e124 {p : Qw} (hp : Short p) (at' : Int) : ∀ {d n : Nat} {e : QG} (_ : e.Fit d) (_ : maxLen + 420 + d ≤ n), ∃ i, cpJ PR n 124 [p.d, e.d, .int .i64 at'] = some (.int .i64 i) := by
 intro d
 induction d with
 | zero => intro n e he; cases he
 | succ d IH =>
  intro n e he hn
  cases he with
  | mk hk hf =>
  rename_i op a rel b names set kz kids
  obtain ⟨n, rfl⟩ : ∃ m, n = m + 1 := ⟨n - 1, by omega⟩
  have l : ∀ (k i m : Nat) (u : Qa) (σ : Sto), i + k = kids.length → k < m →
    Ans (Qv 0 (HI (cpJ PR n) (ciJ PR n) n (.int .i64 at') p.d (QG.mk op a rel b names set kz kids).d) m [.int .i64 i, u] σ) (doneI any) := by
   intro k
   induction k with
   | zero =>
    intro i m u σ hi hm
    obtain ⟨m, rfl⟩ : ∃ j, m = j + 1 := ⟨m - 1, by omega⟩
    have hi' : ¬ ((i : Int) < kids.length) := by omega
    refine Q2 ?_
    simp -implicitDefEqProofs [HI, B124_0, hi']
   | succ k ih =>
    intro i m u σ hi hm
    obtain ⟨m, rfl⟩ : ∃ j, m = j + 1 := ⟨m - 1, by omega⟩
    have hi' : ((i : Int) < kids.length) := by omega
    obtain ⟨x, hx⟩ := Qz (l := kids) (by omega : i < kids.length)
    have hwr := QT (by omega : i < kids.length) hk
    obtain ⟨j, hj⟩ := IH (n := n) (hf x (List.mem_of_getElem? hx)) (by omega)
    have h1 : ∀ u, Ans (Qv 0 (HI (cpJ PR n) (ciJ PR n) n (.int .i64 at') p.d (QG.mk op a rel b names set kz kids).d) m [.int .i64 ((i : Int) + 1), u] σ) (doneI any) := λu=> ih (i + 1) m u σ (by omega) (by omega)
    refine Q2 ?_
    simp -implicitDefEqProofs [HI, B124_0, hi', hx, hwr, hj, h1]
  obtain ⟨i, σ, h, -⟩ := (l kids.length 0 n (.int .i64 0) Qd (by omega) (by omega)).doneI
  obtain ⟨k1, h1⟩ := e151 (n := n) (by omega) (QG.mk op a rel b names set kz kids)
  obtain ⟨c, h2⟩ := e152 (n := n) (by omega) (QG.mk op a rel b names set kz kids) at'
  have h3 := e92 (n := n) (by omega) a at'
  obtain ⟨q, h4, h5⟩ := e153 (n := n) (by omega) p a
  have : Ans (cpJ PR (n + 1) 124 [p.d, (QG.mk op a rel b names set kz kids).d, .int .i64 at']) (isI any) := by
   rw [u124]
   refine Zw ?_
   simp only [Int.natCast_zero] at h
   by_cases hq : q < 0
   ·simp -implicitDefEqProofs [D124, JR, L124_1, J124_1, h, h1, h2, h3, h4, hq]
   ·have h6 : ∃ q' : Nat, q = q' ∧ q' < 9223372036854775808 := by
     rcases h5 with h5 | h5 | h5 | h5
     ·exact ⟨_, h5, hp.users⟩
     ·exact ⟨_, h5, hp.roles⟩
     ·exact ⟨_, h5, hp.types⟩
     ·omega
    obtain ⟨q', rfl, hq'⟩ := h6
    obtain ⟨b1, b2, h7⟩ := e82 (n := n) (by omega) set q' hq'
    simp -implicitDefEqProofs [D124, JR, L124_1, J124_1, h, h1, h2, h3, h4, h7]
  obtain ⟨b, h, -⟩ := this.int
  exact ⟨b, h⟩
theorem e94 {d n : Nat} {p : Qw} (hp : Short p) {e : QG} (he : e.Fit d) (v : Bool) (hn : maxLen + 430 + d ≤ n) : ∃ i, cpJ PR n 94 [p.d, e.d, .bool v] = some (.int .i64 i) := by
 obtain ⟨n, rfl⟩ : ∃ m, n = m + 1 := ⟨n - 1, by omega⟩
 obtain ⟨i, h1⟩ := e47 (n := n) he (by omega)
 obtain ⟨j, h2⟩ := e124 hp 15 (n := n) he (by omega)
 obtain ⟨k, h3⟩ := e124 hp 10 (n := n) he (by omega)
 have : Ans (cpJ PR (n + 1) 94 [p.d, e.d, .bool v]) (isI any) := by
  rw [u94]
  refine Zw ?_
  simp -implicitDefEqProofs [D94, h1, h2, h3]
 obtain ⟨b, h, -⟩ := this.int
 exact ⟨b, h⟩
end Go.Proofs.YtdibpeknpmhknaaGreat
namespace Go.Proofs.YtdibpeknpmhknaaGreat
open Go
structure XN (d : Nat) (p : Qw) : Prop where
 classes : ∀ c ∈ p.classes.l, c.name.length ≤ maxLen ∧ c.perms.l.length ≤ maxLen ∧ ∀ s ∈ c.perms.l, s.length ≤ maxLen
 types : ∀ t ∈ p.types.l, t.name.length ≤ maxLen ∧ t.aliases.l.length ≤ maxLen ∧ ∀ s ∈ t.aliases.l, s.length ≤ maxLen
 attrs : ∀ a ∈ p.attrs.l, a.name.length ≤ maxLen
 roles : ∀ a ∈ p.roles.l, a.name.length ≤ maxLen
 users : ∀ a ∈ p.users.l, a.name.length ≤ maxLen
 bools : ∀ a ∈ p.bools.l, a.name.length ≤ maxLen
 sens : ∀ s ∈ p.sens.l, s.length ≤ maxLen
 cats : ∀ s ∈ p.cats.l, s.length ≤ maxLen
 conds : ∀ e ∈ p.conds.l, e.Fit d
 trans : ∀ a ∈ p.trans.l, a.name.length ≤ maxLen
 constrs : ∀ c ∈ p.constrs.l, c.expr.Fit d
 sids : ∀ a ∈ p.sids.l, a.name.length ≤ maxLen
 files : ∀ a ∈ p.files.l, a.pattern.length ≤ maxLen
 asserts : ∀ a ∈ p.asserts.l, a.name.length ≤ maxLen
structure Zh (p : Qw) : Prop where
 types : p.types.l.length ≤ 12
 attrs : p.attrs.l.length ≤ 6
 classes : p.classes.l.length ≤ 6
 rules : p.rules.l.length ≤ 40
 conds : p.conds.l.length ≤ 6
 bools : p.bools.l.length ≤ 6
 constrs : p.constrs.l.length ≤ 12
 users : p.users.l.length ≤ 8
 roles : p.roles.l.length ≤ 8
 trans : p.trans.l.length ≤ 36
 roleTrans : p.roleTrans.l.length ≤ 12
 ranges : p.ranges.l.length ≤ 12
 sens : p.sens.l.length ≤ 6
 cats : p.cats.l.length ≤ 10
 sids : p.sids.l.length ≤ 8
 files : p.files.l.length ≤ 12
 asserts : p.asserts.l.length ≤ 8
 aliases : ∀ t ∈ p.types.l, t.aliases.l.length ≤ 4
theorem Zh.short {p : Qw} (h : Zh p) : Short p := ⟨by have := h.users; omega, by have := h.roles; omega, by have := h.types; omega⟩
abbrev YY (l : List Bs) : List (List Qa) := l.map λs=> [Qa.str s]
theorem nm1 {n : Nat} (hn : maxLen + 1200 ≤ n) (s : Bs) (hs : s.length ≤ maxLen) (z : Zs) (ns : List Bs) (hl : ns.length ≤ 1000) :
  ∃ e, cpJ PR n 80 [.slice false 1 1 [[.str s]], slD z 1 (YY ns)] = some (.int .i64 e) ∧ (e = 0 → Z5 s = true ∧ s ∉ ns) := by
 obtain ⟨e, h1, h2⟩ := e80 (n := n) hn .lit z [s] ns (by simp [maxLen]) (by simpa using hs) (by unfold maxLen; omega)
 exact ⟨e, h1, λh=> ⟨(h2 h).ok s (by simp), (h2 h).no s (by simp)⟩⟩
theorem l49 {n d : Nat} (hn : maxLen + 1200 ≤ n) {p : Qw} (hf : XN d p) (hp : Zh p) : ∀ (k i m : Nat) (ns : List Bs) (v u : Qa) (σ : Sto), i + k = p.classes.l.length → k < m → ns.length = i → Own σ 1 v (YY ns) →
  Ans (Qv 0 (L49_0 (cpJ PR n) (ciJ PR n) n p.d) m [.int .i64 i, v, u] σ) (doneI any) := by
 intro k
 induction k with
 | zero =>
  intro i m ns v u σ hi hm hns hv
  obtain ⟨m, rfl⟩ : ∃ j, m = j + 1 := ⟨m - 1, by omega⟩
  have hi' : ¬ ((i : Int) < p.classes.l.length) := by omega
  refine Q2 ?_
  simp -implicitDefEqProofs [L49_0, B49_0, hi']
 | succ k ih =>
  intro i m ns v u σ hi hm hns hv
  obtain ⟨m, rfl⟩ : ∃ j, m = j + 1 := ⟨m - 1, by omega⟩
  have hlen := hp.classes
  have hi' : ((i : Int) < p.classes.l.length) := by omega
  obtain ⟨x, hx⟩ := Qz (l := p.classes.l) (by omega : i < p.classes.l.length)
  obtain ⟨f1, f2, f3⟩ := hf.classes x (List.mem_of_getElem? hx)
  have hwr := QT (by omega : i < p.classes.l.length) (by unfold maxLen; omega)
  obtain ⟨z, hz⟩ := X7 hv
  obtain ⟨e, h1, -⟩ := nm1 hn x.name f1 z ns (by omega)
  obtain ⟨e2, h2, -⟩ := e80 (n := n) hn x.perms.z .nil x.perms.l [] f2 f3 (by simp)
  have h2 : cpJ PR n 80 [Z1 x.perms, .nils] = some (.int .i64 e2) := h2
  obtain ⟨v', σ', h3, hv'⟩ := XD (own := 1) (r := [.str x.name]) hv (by rw [List.length_map]; omega)
  have h4 := ih (i + 1) m (ns ++ [x.name]) v' u σ' (by omega) (by omega) (by simp [hns]) (by simpa using hv')
  simp only [Int.natCast_add, Int.natCast_one] at h4
  refine Q2 ?_
  simp -implicitDefEqProofs [L49_0, B49_0, hi', hx, hwr, hz, h1, h2, h3, h4]
theorem e49 {n d : Nat} (hn : maxLen + 1300 ≤ n) {p : Qw} (hf : XN d p) (hp : Zh p) : ∃ i, cpJ PR n 49 [p.d] = some (.int .i64 i) := by
 obtain ⟨n, rfl⟩ : ∃ m, n = m + 1 := ⟨n - 1, by omega⟩
 have hlen := hp.classes
 obtain ⟨i, σ, h, -⟩ := (l49 (n := n) (by omega) hf hp p.classes.l.length 0 n [] .nils (.int .i64 0) Qd (by omega) (by omega) rfl (X5 _ _)).doneI
 simp only [Int.natCast_zero] at h
 have : Ans (cpJ PR (n + 1) 49 [p.d]) (isI any) := by
  rw [u49]
  refine Zw ?_
  simp -implicitDefEqProofs [D49, h]
 obtain ⟨b, h, -⟩ := this.int
 exact ⟨b, h⟩
def ZB (l : List Q9) : List Bs := l.flatMap λt=> t.name :: t.aliases.l
theorem tnames_len {l : List Q9} (h : ∀ t ∈ l, t.aliases.l.length ≤ 4) : (ZB l).length ≤ 5 * l.length := by
 induction l with
 | nil => simp [ZB]
 | cons t l ih =>
  have h1 := ih fun t ht => h t (by simp [ht])
  have h2 := h t (by simp)
  simp only [ZB, List.flatMap_cons, List.length_append, List.length_cons] at *
  omega
theorem GD {l : List Q9} {i : Nat} {t : Q9} (h : l[i]? = some t) : ZB (l.take (i + 1)) = ZB (l.take i) ++ (t.name :: t.aliases.l) := by
 rw [Zp h]
 simp [ZB]
theorem WL {p : Qw} (hp : Zh p) (i : Nat) : (ZB (p.types.l.take i)).length ≤ 60 := by
 have h1 := tnames_len (l := p.types.l.take i) fun t ht => hp.aliases t (List.mem_of_mem_take ht)
 have h2 := hp.types
 have h3 := List.length_take_le i p.types.l
 have h4 := List.length_take_le' i p.types.l
 omega
theorem l81 {n : Nat} {p : Qw} (hp : Zh p) (q : Nat) (hq : q ≤ p.types.l.length) : ∀ (k i m : Nat) (v : Qa) (σ : Sto), i + k = q → k < m → Own σ 1 v (YY (ZB (p.types.l.take i))) →
  Ans (Qv 0 (L81_0 (cpJ PR n) (ciJ PR n) n (.int .i64 q) p.d) m [.int .i64 i, v] σ) (λo=> ∃ v σ, o = .done v σ ∧ Own σ 1 v (YY (ZB (p.types.l.take q)))) := by
 intro k
 induction k with
 | zero =>
  intro i m v σ hi hm hv
  obtain ⟨m, rfl⟩ : ∃ j, m = j + 1 := ⟨m - 1, by omega⟩
  obtain rfl : i = q := by omega
  refine Q2 ?_
  simp -implicitDefEqProofs [L81_0, B81_0, own_okVal hv]
  exact ⟨v, σ, ⟨rfl, rfl⟩, hv⟩
 | succ k ih =>
  intro i m v σ hi hm hv
  obtain ⟨m, rfl⟩ : ∃ j, m = j + 1 := ⟨m - 1, by omega⟩
  have hlen := hp.types
  have hi' : ((i : Int) < q) := by omega
  obtain ⟨x, hx⟩ := Qz (l := p.types.l) (by omega : i < p.types.l.length)
  have hwr := QT (by omega : i < p.types.l.length) (by unfold maxLen; omega)
  have ha := hp.aliases x (List.mem_of_getElem? hx)
  have hsm := WL hp i
  obtain ⟨v1, σ1, h1, hv1⟩ := XD (own := 1) (r := [.str x.name]) hv (by rw [List.length_map]; omega)
  obtain ⟨v2, σ2, h2, hv2⟩ := GY (x := Z1 x.aliases) (new := YY x.aliases.l) hv1 W9 V6 (by simp; omega)
  have h3 := ih (i + 1) m v2 σ2 (by omega) (by omega) (by rw [GD hx]; simpa using hv2)
  simp only [Int.natCast_add, Int.natCast_one] at h3
  refine Q2 ?_
  simp -implicitDefEqProofs [L81_0, B81_0, hi', hx, hwr, h1, h2, h3]
theorem e81 {n : Nat} (hn : 100 ≤ n) {p : Qw} (hp : Zh p) (q : Nat) (hq : q ≤ p.types.l.length) : ∃ r, cpJ PR n 81 [p.d, .int .i64 q] = some r ∧ Fresh 1 r (YY (ZB (p.types.l.take q))) := by
 obtain ⟨n, rfl⟩ : ∃ m, n = m + 1 := ⟨n - 1, by omega⟩
 have hlen := hp.types
 obtain ⟨o, h, v, σ, rfl, hv⟩ := l81 (n := n) hp q hq q 0 n .nils Qd (by omega) (by omega) (by simpa [ZB] using X5 _ _)
 simp only [Int.natCast_zero] at h
 obtain ⟨u, h1, h2⟩ := own_back hv
 refine ⟨u, ?_, h2⟩
 rw [u81]
 simp -implicitDefEqProofs [D81, h, h1]
theorem names_app {a b : List Bs} (h : Xz a []) (h2 : Xz b a) : Xz (a ++ b) [] := by
 refine ⟨fun s hs => ?_, ?_, by simp⟩
 ·rcases List.mem_append.1 hs with hs | hs
  ·exact h.ok s hs
  ·exact h2.ok s hs
 ·rw [List.nodup_append]
  exact ⟨h.nd, h2.nd, fun x hx y hy e => h2.no y hy (e ▸ hx)⟩
theorem Yt {Q : Int → Prop} {l : Nat} {f : List Qa → Sto → Option Out} {m : Nat} {o : Option Out} (h : Ans o (doneI Q)) : Ans o (stepR l f m (doneI Q)) :=
 h.mono fun x hx => by
  cases x with
  | done v σ => exact hx
  | next i vs σ => exact hx.elim
theorem HS {n f : Nat} {xs : List Qa} {r : Qa} {l : List (List Qa)} (σ : Sto) (h : cpJ PR n f xs = some r) (hr : Fresh 1 r l) (hs : Zv xs = some xs) : ∃ v σ', Vp (cpJ PR n) f σ xs = some (v, σ') ∧ Own σ' 1 v l := by
 obtain ⟨v, σ', h1, h2⟩ := fresh_own hr σ
 exact ⟨v, σ', by simp [Vp, hs, h, h1], h2⟩
theorem l50_0 {n d : Nat} (hn : maxLen + 1200 ≤ n) {p : Qw} (hf : XN d p) (hp : Zh p) (Q : Int → Prop) (h0 : Q 0) (hQ : ∀ i, i ≠ 0 → Q i) : ∀ (k i m : Nat) (ns : List Bs) (v u : Qa) (σ : Sto), i + k = p.attrs.l.length → k < m → ns.length ≤ 100 + i → Own σ 1 v (YY ns) →
  Ans (Qv 1 (L50_0 (cpJ PR n) (ciJ PR n) n p.d) m [.int .i64 i, v, u] σ) (doneI Q) := by
 intro k
 induction k with
 | zero =>
  intro i m ns v u σ hi hm hns hv
  obtain ⟨m, rfl⟩ : ∃ j, m = j + 1 := ⟨m - 1, by omega⟩
  have hi' : ¬ ((i : Int) < p.attrs.l.length) := by omega
  refine Q2 ?_
  simp -implicitDefEqProofs [L50_0, B50_0, hi', h0]
 | succ k ih =>
  intro i m ns v u σ hi hm hns hv
  obtain ⟨m, rfl⟩ : ∃ j, m = j + 1 := ⟨m - 1, by omega⟩
  have hlen := hp.attrs
  have hi' : ((i : Int) < p.attrs.l.length) := by omega
  obtain ⟨x, hx⟩ := Qz (l := p.attrs.l) (by omega : i < p.attrs.l.length)
  have f1 := hf.attrs x (List.mem_of_getElem? hx)
  have hwr := QT (by omega : i < p.attrs.l.length) (by unfold maxLen; omega)
  obtain ⟨z, hz⟩ := X7 hv
  obtain ⟨e, h1, -⟩ := nm1 hn x.name f1 z ns (by omega)
  obtain ⟨v', σ', h3, hv'⟩ := XD (own := 1) (r := [.str x.name]) hv (by rw [List.length_map]; omega)
  obtain ⟨b1, b2, h5⟩ := e82 (n := n) (by omega) x.types p.types.l.length hp.short.types
  have h4 := ih (i + 1) m (ns ++ [x.name]) v' u σ' (by omega) (by omega) (by simp; omega) (by simpa using hv')
  simp only [Int.natCast_add, Int.natCast_one] at h4
  refine Q2 ?_
  by_cases he : e = 0
  ·subst he
   simp -implicitDefEqProofs [L50_0, B50_0, hi', hx, hwr, hz, h1, h3, h4, h5, hQ]
  ·simp -implicitDefEqProofs [L50_0, B50_0, hi', hx, hwr, hz, h1, h3, h4, h5, he, hQ]
theorem l50_1 {n d : Nat} (hn : maxLen + 1200 ≤ n) {p : Qw} (hf : XN d p) (hp : Zh p) : ∀ (k i m : Nat) (u : Qa) (σ : Sto), i + k = p.types.l.length → k < m → Xz (ZB (p.types.l.take i)) [] →
  Ans (Qv 0 (L50_1 (cpJ PR n) (ciJ PR n) n p.d) m [.int .i64 i, u] σ) (doneI λe=> e = 0 → Xz (ZB p.types.l) []) := by
 intro k
 induction k with
 | zero =>
  intro i m u σ hi hm hN
  obtain ⟨m, rfl⟩ : ∃ j, m = j + 1 := ⟨m - 1, by omega⟩
  have hi' : ¬ ((i : Int) < p.types.l.length) := by omega
  rw [List.take_of_length_le (by omega)] at hN
  have hlen := hp.attrs
  have hsm := WL hp p.types.l.length
  rw [List.take_length] at hsm
  obtain ⟨r, h1, h2⟩ := e81 (n := n) (by omega) hp p.types.l.length (Nat.le_refl _)
  rw [List.take_length] at h2
  obtain ⟨v, σ', h3, hv⟩ := HS σ h1 h2 (by simp)
  have h4 := Yt (l := 0) (f := L50_1 (cpJ PR n) (ciJ PR n) n p.d) (m := m) (l50_0 (n := n) hn hf hp (λe=> e = 0 → Xz (ZB p.types.l) []) (λ_=> hN) (fun i h h' => absurd h' h) p.attrs.l.length 0 n _ v u σ' (by omega) (by omega) (by omega) hv)
  simp only [Int.natCast_zero] at h4
  refine Q2 ?_
  simp -implicitDefEqProofs [L50_1, B50_1, hi', h3, h4, -Vp.eq_1]
 | succ k ih =>
  intro i m u σ hi hm hN
  obtain ⟨m, rfl⟩ : ∃ j, m = j + 1 := ⟨m - 1, by omega⟩
  have hlen := hp.types
  have hi' : ((i : Int) < p.types.l.length) := by omega
  obtain ⟨x, hx⟩ := Qz (l := p.types.l) (by omega : i < p.types.l.length)
  obtain ⟨f1, f2, f3⟩ := hf.types x (List.mem_of_getElem? hx)
  have hwr := QT (by omega : i < p.types.l.length) (by unfold maxLen; omega)
  have ha := hp.aliases x (List.mem_of_getElem? hx)
  have hsm := WL hp i
  obtain ⟨v1, σ1, h1, hv1⟩ := GY (x := Z1 x.aliases) (new := YY x.aliases.l) (Js σ 1 [[.str x.name]]) W9 V6 (by simp; omega)
  obtain ⟨r, h2, h2'⟩ := e81 (n := n) (by omega) hp i (by omega)
  obtain ⟨v2, σ2, h3, hv2⟩ := HS σ1 h2 h2' (by simp)
  obtain ⟨z1, hz1⟩ := X7 hv1
  obtain ⟨z2, hz2⟩ := X7 hv2
  obtain ⟨e, h4, h4'⟩ := e80 (n := n) hn z1 z2 (x.name :: x.aliases.l) (ZB (p.types.l.take i)) (by simp [maxLen]; omega) (by simpa using ⟨f1, f3⟩) (by unfold maxLen; omega)
  have hz1 : v1.sealVal = some (Zc z1 (x.name :: x.aliases.l)) := hz1
  refine Q2 ?_
  by_cases he : e = 0
  ·subst he
   have h5 := ih (i + 1) m u σ2 (by omega) (by omega) (by rw [GD hx]; exact names_app hN (h4' rfl))
   simp only [Int.natCast_add, Int.natCast_one] at h5
   simp -implicitDefEqProofs [L50_1, B50_1, hi', hx, hwr, h1, h3, hz1, hz2, h4, h5, -Vp.eq_1]
  ·simp -implicitDefEqProofs [L50_1, B50_1, hi', hx, hwr, h1, h3, hz1, hz2, h4, he, -Vp.eq_1]
theorem e50 {n d : Nat} (hn : maxLen + 1300 ≤ n) {p : Qw} (hf : XN d p) (hp : Zh p) : ∃ i, cpJ PR n 50 [p.d] = some (.int .i64 i) ∧ (i = 0 → Xz (ZB p.types.l) []) := by
 obtain ⟨n, rfl⟩ : ∃ m, n = m + 1 := ⟨n - 1, by omega⟩
 have hlen := hp.types
 obtain ⟨i, σ, h, hi⟩ := (l50_1 (n := n) (by omega) hf hp p.types.l.length 0 n (.int .i64 0) Qd (by omega) (by omega) ⟨by simp [ZB], by simp [ZB], by simp [ZB]⟩).doneI
 simp only [Int.natCast_zero] at h
 have : Ans (cpJ PR (n + 1) 50 [p.d]) (isI λi=> i = 0 → Xz (ZB p.types.l) []) := by
  rw [u50]
  refine Zw ?_
  simp -implicitDefEqProofs [D50, h]
  exact λ_=> hi
 exact this.int
end Go.Proofs.YtdibpeknpmhknaaGreat
namespace Go.Proofs.YtdibpeknpmhknaaGreat
open Go
theorem names_one {l : List Bs} {s : Bs} (h : Xz l []) (h1 : Z5 s = true) (h2 : s ∉ l) : Xz (l ++ [s]) [] :=
 names_app h ⟨by simpa using h1, by simp, by simpa using h2⟩
theorem l52 {n d : Nat} (hn : maxLen + 1200 ≤ n) {p : Qw} (hf : XN d p) (hp : Zh p) : ∀ (k i m : Nat) (v u : Qa) (σ : Sto), i + k = p.users.l.length → k < m → Xz ((p.users.l.take i).map QU.name) [] → Own σ 1 v (YY ((p.users.l.take i).map QU.name)) →
  Ans (Qv 0 (L52_0 (cpJ PR n) (ciJ PR n) n p.d) m [.int .i64 i, v, u] σ) (doneI λe=> e = 0 → Xz (p.users.l.map QU.name) []) := by
 intro k
 induction k with
 | zero =>
  intro i m v u σ hi hm hN hv
  obtain ⟨m, rfl⟩ : ∃ j, m = j + 1 := ⟨m - 1, by omega⟩
  have hi' : ¬ ((i : Int) < p.users.l.length) := by omega
  rw [List.take_of_length_le (by omega)] at hN
  refine Q2 ?_
  simp -implicitDefEqProofs [L52_0, B52_0, hi', hN]
 | succ k ih =>
  intro i m v u σ hi hm hN hv
  obtain ⟨m, rfl⟩ : ∃ j, m = j + 1 := ⟨m - 1, by omega⟩
  have hlen := hp.users
  have hi' : ((i : Int) < p.users.l.length) := by omega
  obtain ⟨x, hx⟩ := Qz (l := p.users.l) (by omega : i < p.users.l.length)
  have f1 := hf.users x (List.mem_of_getElem? hx)
  have hwr := QT (by omega : i < p.users.l.length) (by unfold maxLen; omega)
  have hl : ((p.users.l.take i).map QU.name).length ≤ 8 := by rw [List.length_map, List.length_take]; omega
  have e1 : (p.users.l.take (i + 1)).map QU.name = (p.users.l.take i).map QU.name ++ [x.name] := by rw [Zp hx]; simp
  have ih := ih (i + 1)
  rw [e1] at ih
  generalize (p.users.l.take i).map QU.name = ns at hN hv hl ih
  obtain ⟨z, hz⟩ := X7 hv
  obtain ⟨e, h1, h1'⟩ := nm1 hn x.name f1 z ns (by omega)
  obtain ⟨v', σ', h3, hv'⟩ := XD (own := 1) (r := [.str x.name]) hv (by rw [List.length_map]; omega)
  obtain ⟨b5, h5⟩ := e85 (n := n) (by omega) p hp.short.roles x.roles
  obtain ⟨b6, h6⟩ := e86 (n := n) (by omega) p x.lo x.hi
  obtain ⟨b7, h7⟩ := e87 (n := n) (by omega) p x.dflt
  obtain ⟨b8, h8⟩ := e88 (n := n) (by omega) x.hi x.dflt
  obtain ⟨b9, h9⟩ := e88 (n := n) (by omega) x.dflt x.lo
  refine Q2 ?_
  by_cases he : e = 0
  ·subst he
   obtain ⟨q1, q2⟩ := h1' rfl
   have h4 := ih m v' u σ' (by omega) (by omega) (names_one hN q1 q2) (by simpa using hv')
   simp only [Int.natCast_add, Int.natCast_one] at h4
   simp -implicitDefEqProofs +contextual [L52_0, B52_0, hi', hx, hwr, hz, h1, h3, h4, h5, h6, h7, h8, h9]
  ·simp -implicitDefEqProofs +contextual [L52_0, B52_0, hi', hx, hwr, hz, h1, he]
theorem e52 {n d : Nat} (hn : maxLen + 1300 ≤ n) {p : Qw} (hf : XN d p) (hp : Zh p) : ∃ i, cpJ PR n 52 [p.d] = some (.int .i64 i) ∧ (i = 0 → Xz (p.users.l.map QU.name) []) := by
 obtain ⟨n, rfl⟩ : ∃ m, n = m + 1 := ⟨n - 1, by omega⟩
 have hlen := hp.users
 obtain ⟨i, σ, h, hi⟩ := (l52 (n := n) (by omega) hf hp p.users.l.length 0 n .nils (.int .i64 0) Qd (by omega) (by omega) ⟨by simp, by simp, by simp⟩ (X5 _ _)).doneI
 simp only [Int.natCast_zero] at h
 have : Ans (cpJ PR (n + 1) 52 [p.d]) (isI λi=> i = 0 → Xz (p.users.l.map QU.name) []) := by
  rw [u52]
  refine Zw ?_
  simp -implicitDefEqProofs [D52, h]
  exact λ_=> hi
 exact this.int
def Cats (p : Qw) : Prop := Xz p.sens.l [] ∧ Xz p.cats.l []
theorem l53 {n d : Nat} (hn : maxLen + 1200 ≤ n) {p : Qw} (hf : XN d p) (hp : Zh p) : ∀ (k i m : Nat) (v : Qa) (σ : Sto), i + k = p.bools.l.length → k < m → Own σ 1 v (YY ((p.bools.l.take i).map Xb.name)) →
  Ans (Qv 0 (L53_0 (cpJ PR n) (ciJ PR n) n p.d) m [.int .i64 i, v] σ) (doneI λe=> e = 0 → Cats p) := by
 intro k
 induction k with
 | zero =>
  intro i m v σ hi hm hv
  obtain ⟨m, rfl⟩ : ∃ j, m = j + 1 := ⟨m - 1, by omega⟩
  have hi' : ¬ ((i : Int) < p.bools.l.length) := by omega
  have hlen := hp.bools
  have g1 : ((p.bools.l.take i).map Xb.name).length ≤ maxLen := by simp [maxLen]; omega
  have g2 : ∀ s ∈ (p.bools.l.take i).map Xb.name, s.length ≤ maxLen := by
   intro s hs
   rw [List.mem_map] at hs
   obtain ⟨a, ha, rfl⟩ := hs
   exact hf.bools a (List.mem_of_mem_take ha)
  generalize (p.bools.l.take i).map Xb.name = ns at hv g1 g2
  obtain ⟨z, hz⟩ := X7 hv
  obtain ⟨e1, h1, -⟩ := e80 (n := n) hn z .nil ns [] g1 g2 (by simp)
  have h1 : cpJ PR n 80 [slD z 1 (YY ns), .nils] = some (.int .i64 e1) := h1
  obtain ⟨e2, h2, h2'⟩ := e80 (n := n) hn p.sens.z .nil p.sens.l [] (by have := hp.sens; unfold maxLen; omega) hf.sens (by simp)
  have h2 : cpJ PR n 80 [Z1 p.sens, .nils] = some (.int .i64 e2) := h2
  obtain ⟨e9003, h3, h3'⟩ := e80 (n := n) hn p.cats.z .nil p.cats.l [] (by have := hp.cats; unfold maxLen; omega) hf.cats (by simp)
  have h3 : cpJ PR n 80 [Z1 p.cats, .nils] = some (.int .i64 e9003) := h3
  refine Q2 ?_
  simp -implicitDefEqProofs [L53_0, B53_0, hi', hz, h1, h2, h3]
  exact ⟨fun a b => absurd b a, fun _ _ => ⟨fun a b => absurd b a, fun a _ b => ⟨h2' a, h3' b⟩⟩⟩
 | succ k ih =>
  intro i m v σ hi hm hv
  obtain ⟨m, rfl⟩ : ∃ j, m = j + 1 := ⟨m - 1, by omega⟩
  have hlen := hp.bools
  have hi' : ((i : Int) < p.bools.l.length) := by omega
  obtain ⟨x, hx⟩ := Qz (l := p.bools.l) (by omega : i < p.bools.l.length)
  have hwr := QT (by omega : i < p.bools.l.length) (by unfold maxLen; omega)
  obtain ⟨v', σ', h3, hv'⟩ := XD (own := 1) (r := [.str x.name]) hv (by rw [List.length_map, List.length_map, List.length_take]; omega)
  have e1 : (p.bools.l.take (i + 1)).map Xb.name = (p.bools.l.take i).map Xb.name ++ [x.name] := by rw [Zp hx]; simp
  have h4 := ih (i + 1) m v' σ' (by omega) (by omega) (by rw [e1]; simpa using hv')
  simp only [Int.natCast_add, Int.natCast_one] at h4
  refine Q2 ?_
  simp -implicitDefEqProofs [L53_0, B53_0, hi', hx, hwr, h3, h4]
theorem e53 {n d : Nat} (hn : maxLen + 1300 ≤ n) {p : Qw} (hf : XN d p) (hp : Zh p) : ∃ i, cpJ PR n 53 [p.d] = some (.int .i64 i) ∧ (i = 0 → Cats p) := by
 obtain ⟨n, rfl⟩ : ∃ m, n = m + 1 := ⟨n - 1, by omega⟩
 have hlen := hp.bools
 obtain ⟨i, σ, h, hi⟩ := (l53 (n := n) (by omega) hf hp p.bools.l.length 0 n .nils Qd (by omega) (by omega) (X5 _ _)).doneI
 simp only [Int.natCast_zero] at h
 have : Ans (cpJ PR (n + 1) 53 [p.d]) (isI λi=> i = 0 → Cats p) := by
  rw [u53]
  refine Zw ?_
  simp -implicitDefEqProofs [D53, h]
  exact λ_=> hi
 exact this.int
def WT : Bs := [111, 98, 106, 101, 99, 116, 95, 114]
structure JK (p : Qw) : Prop where
 first : (p.roles.l.map QQ.name)[0]? = some WT
 nd : (p.roles.l.map QQ.name).Nodup
 ok : ∀ s ∈ p.roles.l.map QQ.name, Z5 s = true
theorem l51 {n d : Nat} (hn : maxLen + 1200 ≤ n) {p : Qw} (hf : XN d p) (hp : Zh p) (all : Q_) (h0 : (p.roles.l.map QQ.name)[0]? = some WT) : ∀ (k i m : Nat) (v u : Qa) (σ : Sto), i + k = p.roles.l.length → 1 ≤ i → k < m → Xz ((p.roles.l.take i).map QQ.name) [] → Own σ 1 v (YY ((p.roles.l.take i).map QQ.name)) →
  Ans (Qv 0 (L51_0 (cpJ PR n) (ciJ PR n) n p.d all.d) m [.int .i64 i, v, u] σ) (doneI λe=> e = 0 → JK p) := by
 intro k
 induction k with
 | zero =>
  intro i m v u σ hi h1i hm hN hv
  obtain ⟨m, rfl⟩ : ∃ j, m = j + 1 := ⟨m - 1, by omega⟩
  have hi' : ¬ ((i : Int) < p.roles.l.length) := by omega
  rw [List.take_of_length_le (by omega)] at hN
  have hR : JK p := ⟨h0, hN.nd, hN.ok⟩
  refine Q2 ?_
  simp -implicitDefEqProofs [L51_0, B51_0, hi', hR]
 | succ k ih =>
  intro i m v u σ hi h1i hm hN hv
  obtain ⟨m, rfl⟩ : ∃ j, m = j + 1 := ⟨m - 1, by omega⟩
  have hlen := hp.roles
  have hi' : ((i : Int) < p.roles.l.length) := by omega
  obtain ⟨x, hx⟩ := Qz (l := p.roles.l) (by omega : i < p.roles.l.length)
  have f1 := hf.roles x (List.mem_of_getElem? hx)
  have hwr := QT (by omega : i < p.roles.l.length) (by unfold maxLen; omega)
  have hl : ((p.roles.l.take i).map QQ.name).length ≤ 8 := by rw [List.length_map, List.length_take]; omega
  have e1 : (p.roles.l.take (i + 1)).map QQ.name = (p.roles.l.take i).map QQ.name ++ [x.name] := by rw [Zp hx]; simp
  have ih := ih (i + 1)
  rw [e1] at ih
  generalize (p.roles.l.take i).map QQ.name = ns at hN hv hl ih
  obtain ⟨z, hz⟩ := X7 hv
  obtain ⟨e, h1, h1'⟩ := nm1 hn x.name f1 z ns (by omega)
  obtain ⟨v', σ', h3, hv'⟩ := XD (own := 1) (r := [.str x.name]) hv (by rw [List.length_map]; omega)
  have h5 := e84 (n := n) (by omega) x.types all
  obtain ⟨b6, h6⟩ := e85 (n := n) (by omega) p hp.short.roles x.next
  refine Q2 ?_
  by_cases he : e = 0
  ·subst he
   obtain ⟨q1, q2⟩ := h1' rfl
   have h4 := ih m v' u σ' (by omega) (by omega) (by omega) (names_one hN q1 q2) (by simpa using hv')
   simp only [Int.natCast_add, Int.natCast_one] at h4
   simp -implicitDefEqProofs +contextual [L51_0, B51_0, hi', hx, hwr, hz, h1, h3, h4, h5, h6]
  ·simp -implicitDefEqProofs +contextual [L51_0, B51_0, hi', hx, hwr, hz, h1, he]
def objD : Qa := .agg [.str WT, .int .u64 0, .int .u64 0, .int .u64 0, .int .u64 0, .int .u64 0, .int .u64 0, .int .u64 0, .int .u64 0]
theorem build_obj (C : Qj) : POp.sem C [.str [111, 98, 106, 101, 99, 116, 95, 114]] (.build [.str [], .int .u64 0, .int .u64 0, .int .u64 0, .int .u64 0, .int .u64 0, .int .u64 0, .int .u64 0, .int .u64 0] [(0, 1)]) = some objD := rfl
theorem eqa_obj (x : QQ) : ∃ b, QZ true [.s, .i .u64, .i .u64, .i .u64, .i .u64, .i .u64, .i .u64, .i .u64, .i .u64] [x.d, objD] = some (.bool b) ∧ (b = false → x.name = WT) := by
 have : Ans (QZ true [.s, .i .u64, .i .u64, .i .u64, .i .u64, .i .u64, .i .u64, .i .u64, .i .u64] [x.d, objD]) (isB λb=> b = false → x.name = WT) := by
  unfold QQ.d QQ.row Q_.row objD
  simp -implicitDefEqProofs +contextual
 exact this.bool
theorem e51 {n d : Nat} (hn : maxLen + 1300 ≤ n) {p : Qw} (hf : XN d p) (hp : Zh p) : ∃ i, cpJ PR n 51 [p.d] = some (.int .i64 i) ∧ (i = 0 → JK p) := by
 obtain ⟨n, rfl⟩ : ∃ m, n = m + 1 := ⟨n - 1, by omega⟩
 have hlen := hp.roles
 have h1 := e83 (n := n) (by omega) p.types.l.length hp.short.types
 have : Ans (cpJ PR (n + 1) 51 [p.d]) (isI λi=> i = 0 → JK p) := by
  rw [u51]
  refine Zw ?_
  by_cases h0 : p.roles.l = []
  ·simp -implicitDefEqProofs [D51, h1, h0]
  ·have h0' : 0 < p.roles.l.length := by
    cases h : p.roles.l with
    | nil => exact absurd h h0
    | cons a b => simp
   obtain ⟨x, hx⟩ := Qz (l := p.roles.l) (i := 0) h0'
   obtain ⟨b, h2, h3⟩ := eqa_obj x
   have h4 : ((p.roles.l.length : Int) == 0) = false := beq_eq_false_iff_ne.2 (by omega)
   have hx' : p.roles.l[0] = x := by rw [List.getElem?_eq_getElem h0'] at hx; exact Option.some.inj hx
   cases b with
   | true =>
    simp -implicitDefEqProofs [D51, h1, h0, h0', h4, hx', h2, build_obj, -QZ.eq_1, -POp.sem.eq_17]
   | false =>
    have hne := h3 rfl
    obtain ⟨i, σ, h, hi⟩ := (l51 (n := n) (by omega) hf hp (JX (min p.types.l.length 256)) (by rw [List.getElem?_map, hx]; simp [hne]) (p.roles.l.length - 1) 1 n (.slice false 1 1 [[.str WT]]) (.int .i64 0) Qd (by omega) (by omega) (by omega) (by
      rw [Zp (i := 0) hx]
      simp only [List.take_zero, List.nil_append, List.map_cons, List.map_nil, hne]
      exact ⟨by simp; decide, by simp, by simp⟩) (by
      rw [Zp (i := 0) hx]
      simp only [List.take_zero, List.nil_append, List.map_cons, List.map_nil, hne]
      exact Js _ _ _)).doneI
    simp only [WT, Int.natCast_one] at h
    simp -implicitDefEqProofs [D51, h1, h0, h0', h4, hx', h2, build_obj, h, -QZ.eq_1, -POp.sem.eq_17]
    exact λ_=> hi
 exact this.int
end Go.Proofs.YtdibpeknpmhknaaGreat
namespace Go.Proofs.YtdibpeknpmhknaaGreat
open Go
section
variable {n d : Nat} (hn : maxLen + 1200 + d ≤ n) {p : Qw} (hp : Zh p)
include hn hp
theorem l54_0 : ∀ (k i m : Nat) (u : Qa) (σ : Sto), i + k = p.rules.l.length → k < m →
  Ans (Qv 1 (L54_0 (cpJ PR n) (ciJ PR n) n p.d) m [.int .i64 i, u] σ) (doneI any) := by
 intro k
 induction k with
 | zero =>
  intro i m u σ hi hm
  obtain ⟨m, rfl⟩ : ∃ j, m = j + 1 := ⟨m - 1, by omega⟩
  have hi' : ¬ ((i : Int) < p.rules.l.length) := by omega
  refine Q2 ?_
  simp -implicitDefEqProofs [L54_0, B54_0, hi']
 | succ k ih =>
  intro i m u σ hi hm
  obtain ⟨m, rfl⟩ : ∃ j, m = j + 1 := ⟨m - 1, by omega⟩
  have hlen := hp.rules
  have hi' : ((i : Int) < p.rules.l.length) := by omega
  obtain ⟨x, hx⟩ := Qz (l := p.rules.l) (by omega : i < p.rules.l.length)
  have hwr := QT (by omega : i < p.rules.l.length) (by unfold maxLen; omega)
  obtain ⟨a1, a2, h1⟩ := e82 (n := n) (by omega) x.source p.types.l.length hp.short.types
  obtain ⟨b1, b2, h2⟩ := e82 (n := n) (by omega) x.target p.types.l.length hp.short.types
  obtain ⟨c1, h3⟩ := e90 (n := n) (by omega) p x.cls x.perms
  obtain ⟨c2, h4⟩ := e91 (n := n) (by omega) p x.cond
  have h5 := ih (i + 1) m u σ (by omega) (by omega)
  simp only [Int.natCast_add, Int.natCast_one] at h5
  refine Q2 ?_
  simp -implicitDefEqProofs +contextual [L54_0, B54_0, hi', hx, hwr, h1, h2, h3, h4, h5]
theorem l54_1 (hf : XN d p) : ∀ (k i m : Nat) (u : Qa) (σ : Sto), i + k = p.conds.l.length → k < m →
  Ans (Qv 0 (L54_1 (cpJ PR n) (ciJ PR n) n p.d) m [.int .i64 i, u] σ) (doneI any) := by
 intro k
 induction k with
 | zero =>
  intro i m u σ hi hm
  obtain ⟨m, rfl⟩ : ∃ j, m = j + 1 := ⟨m - 1, by omega⟩
  have hi' : ¬ ((i : Int) < p.conds.l.length) := by omega
  have hlen := hp.rules
  have h1 := Yt (l := 0) (f := L54_1 (cpJ PR n) (ciJ PR n) n p.d) (m := m) (l54_0 hn hp p.rules.l.length 0 n u σ (by omega) (by omega))
  simp only [Int.natCast_zero] at h1
  refine Q2 ?_
  simp -implicitDefEqProofs [L54_1, B54_1, hi', h1]
 | succ k ih =>
  intro i m u σ hi hm
  obtain ⟨m, rfl⟩ : ∃ j, m = j + 1 := ⟨m - 1, by omega⟩
  have hlen := hp.conds
  have hi' : ((i : Int) < p.conds.l.length) := by omega
  obtain ⟨x, hx⟩ := Qz (l := p.conds.l) (by omega : i < p.conds.l.length)
  have hwr := QT (by omega : i < p.conds.l.length) (by unfold maxLen; omega)
  obtain ⟨j, h1⟩ := e89 (n := n) p (hf.conds x (List.mem_of_getElem? hx)) (by omega)
  have h5 := ih (i + 1) m u σ (by omega) (by omega)
  simp only [Int.natCast_add, Int.natCast_one] at h5
  refine Q2 ?_
  simp -implicitDefEqProofs +contextual [L54_1, B54_1, hi', hx, hwr, h1, h5]
theorem l55_0 (hf : XN d p) : ∀ (k i m : Nat) (u : Qa) (σ : Sto), i + k = p.trans.l.length → k < m →
  Ans (Qv 1 (L55_0 (cpJ PR n) (ciJ PR n) n p.d) m [.int .i64 i, u] σ) (doneI any) := by
 intro k
 induction k with
 | zero =>
  intro i m u σ hi hm
  obtain ⟨m, rfl⟩ : ∃ j, m = j + 1 := ⟨m - 1, by omega⟩
  have hi' : ¬ ((i : Int) < p.trans.l.length) := by omega
  refine Q2 ?_
  simp -implicitDefEqProofs [L55_0, B55_0, hi']
 | succ k ih =>
  intro i m u σ hi hm
  obtain ⟨m, rfl⟩ : ∃ j, m = j + 1 := ⟨m - 1, by omega⟩
  have hlen := hp.trans
  have hi' : ((i : Int) < p.trans.l.length) := by omega
  obtain ⟨x, hx⟩ := Qz (l := p.trans.l) (by omega : i < p.trans.l.length)
  have hwr := QT (by omega : i < p.trans.l.length) (by unfold maxLen; omega)
  obtain ⟨a1, a2, h1⟩ := e82 (n := n) (by omega) x.source p.types.l.length hp.short.types
  obtain ⟨b1, b2, h2⟩ := e82 (n := n) (by omega) x.target p.types.l.length hp.short.types
  have h3 := e92 (n := n) (by omega) x.cls p.classes.l.length
  have h4 := e92 (n := n) (by omega) x.result p.types.l.length
  obtain ⟨c1, h6⟩ := e91 (n := n) (by omega) p x.cond
  obtain ⟨c2, h7⟩ := e93 (n := n) (by omega) x.name (hf.trans x (List.mem_of_getElem? hx))
  have h5 := ih (i + 1) m u σ (by omega) (by omega)
  simp only [Int.natCast_add, Int.natCast_one] at h5
  refine Q2 ?_
  simp -implicitDefEqProofs +contextual [L55_0, B55_0, hi', hx, hwr, h1, h2, h3, h4, h5, h6, h7]
theorem l55_1 (hf : XN d p) (a : Nat) : ∀ (k i m : Nat) (u : Qa) (σ : Sto) (g : Nat → Int), i + k = p.trans.l.length → k < m → a < σ.nobj → σ.obj a = Wk 4 (λj=> .int .i64 (g j)) →
  Ans (Qv 0 (ED (cpJ PR n) (ciJ PR n) n p.d (.obj a 0)) m [.int .i64 i, u] σ) (doneI any) := by
 intro k
 induction k with
 | zero =>
  intro i m u σ g hi hm ha ho
  obtain ⟨m, rfl⟩ : ∃ j, m = j + 1 := ⟨m - 1, by omega⟩
  have hi' : ¬ ((i : Int) < p.trans.l.length) := by omega
  have hlen := hp.trans
  have h1 := Yt (l := 0) (f := ED (cpJ PR n) (ciJ PR n) n p.d (.obj a 0)) (m := m) (l55_0 hn hp hf p.trans.l.length 0 n u σ (by omega) (by omega))
  simp only [Int.natCast_zero] at h1
  refine Q2 ?_
  simp -implicitDefEqProofs [ED, B55_1, hi', h1]
 | succ k ih =>
  intro i m u σ g hi hm ha ho
  obtain ⟨m, rfl⟩ : ∃ j, m = j + 1 := ⟨m - 1, by omega⟩
  have hlen := hp.trans
  have hi' : ((i : Int) < p.trans.l.length) := by omega
  obtain ⟨x, hx⟩ := Qz (l := p.trans.l) (by omega : i < p.trans.l.length)
  have hwr := QT (by omega : i < p.trans.l.length) (by unfold maxLen; omega)
  refine Q2 ?_
  by_cases hk : 1 ≤ x.kind ∧ x.kind ≤ 3
  ·obtain ⟨j, hj⟩ : ∃ j : Nat, x.kind = j := ⟨x.kind.toNat, by omega⟩
   rw [hj] at hk
   obtain ⟨k1, k2⟩ := hk
   have h1 := YN (id := a) (j := j) (by omega)
   have h2 := Yv (i := j) ho ha (by omega)
   have h3 := Gb (i := j) (v := .int .i64 (IntKind.i64.wrap (g j + 1))) ho ha (by omega) rfl rfl
   have e : upd (λj=> Qa.int .i64 (g j)) j (.int .i64 (IntKind.i64.wrap (g j + 1))) = λi=> .int .i64 (upd g j (IntKind.i64.wrap (g j + 1)) i) := by
    funext i; simp only [upd]; split <;> rfl
   rw [e] at h3
   clear e
   generalize upd g j (IntKind.i64.wrap (g j + 1)) = g' at h3
   have h4 := Yv (σ := σ.put a (Wk 4 λi=> .int .i64 (g' i))) (id := a) (i := j) (n := 4) (f := λi=> .int .i64 (g' i)) (by simp) (by simpa using ha) (by omega)
   have h5 := ih (i + 1) m u (σ.put a (Wk 4 λi=> .int .i64 (g' i))) g' (by omega) (by omega) (by simpa using ha) (by rw [Sto.put_obj])
   simp only [Int.natCast_add, Int.natCast_one] at h5
   simp -implicitDefEqProofs [ED, B55_1, hi', hx, hwr, hj, k1, k2, h1, h2, h3, h4, h5, -Zb.eq_1]
  ·have h5 := ih (i + 1) m u σ g (by omega) (by omega) ha ho
   simp only [Int.natCast_add, Int.natCast_one] at h5
   by_cases k1 : 1 ≤ x.kind
   ·have k2 : ¬ x.kind ≤ 3 := λh=> hk ⟨k1, h⟩
    simp -implicitDefEqProofs [ED, B55_1, hi', hx, hwr, k1, k2, h5]
   ·simp -implicitDefEqProofs [ED, B55_1, hi', hx, hwr, k1, h5]
theorem l56_0 : ∀ (k i m : Nat) (u : Qa) (σ : Sto), i + k = p.ranges.l.length → k < m →
  Ans (Qv 1 (L56_0 (cpJ PR n) (ciJ PR n) n p.d) m [.int .i64 i, u] σ) (doneI any) := by
 intro k
 induction k with
 | zero =>
  intro i m u σ hi hm
  obtain ⟨m, rfl⟩ : ∃ j, m = j + 1 := ⟨m - 1, by omega⟩
  have hi' : ¬ ((i : Int) < p.ranges.l.length) := by omega
  refine Q2 ?_
  simp -implicitDefEqProofs [L56_0, B56_0, hi']
 | succ k ih =>
  intro i m u σ hi hm
  obtain ⟨m, rfl⟩ : ∃ j, m = j + 1 := ⟨m - 1, by omega⟩
  have hlen := hp.ranges
  have hi' : ((i : Int) < p.ranges.l.length) := by omega
  obtain ⟨x, hx⟩ := Qz (l := p.ranges.l) (by omega : i < p.ranges.l.length)
  have hwr := QT (by omega : i < p.ranges.l.length) (by unfold maxLen; omega)
  obtain ⟨a1, a2, h1⟩ := e82 (n := n) (by omega) x.source p.types.l.length hp.short.types
  obtain ⟨b1, b2, h2⟩ := e82 (n := n) (by omega) x.target p.types.l.length hp.short.types
  have h3 := e92 (n := n) (by omega) x.cls p.classes.l.length
  obtain ⟨c2, h4⟩ := e86 (n := n) (by omega) p x.lo x.hi
  have h5 := ih (i + 1) m u σ (by omega) (by omega)
  simp only [Int.natCast_add, Int.natCast_one] at h5
  refine Q2 ?_
  simp -implicitDefEqProofs +contextual [L56_0, B56_0, hi', hx, hwr, h1, h2, h3, h4, h5]
theorem l56_1 : ∀ (k i m : Nat) (u : Qa) (σ : Sto), i + k = p.roleTrans.l.length → k < m →
  Ans (Qv 0 (L56_1 (cpJ PR n) (ciJ PR n) n p.d) m [.int .i64 i, u] σ) (doneI any) := by
 intro k
 induction k with
 | zero =>
  intro i m u σ hi hm
  obtain ⟨m, rfl⟩ : ∃ j, m = j + 1 := ⟨m - 1, by omega⟩
  have hi' : ¬ ((i : Int) < p.roleTrans.l.length) := by omega
  have hlen := hp.ranges
  have h1 := Yt (l := 0) (f := L56_1 (cpJ PR n) (ciJ PR n) n p.d) (m := m) (l56_0 hn hp p.ranges.l.length 0 n u σ (by omega) (by omega))
  simp only [Int.natCast_zero] at h1
  refine Q2 ?_
  simp -implicitDefEqProofs [L56_1, B56_1, hi', h1]
 | succ k ih =>
  intro i m u σ hi hm
  obtain ⟨m, rfl⟩ : ∃ j, m = j + 1 := ⟨m - 1, by omega⟩
  have hlen := hp.roleTrans
  have hi' : ((i : Int) < p.roleTrans.l.length) := by omega
  obtain ⟨x, hx⟩ := Qz (l := p.roleTrans.l) (by omega : i < p.roleTrans.l.length)
  have hwr := QT (by omega : i < p.roleTrans.l.length) (by unfold maxLen; omega)
  obtain ⟨a1, h1⟩ := JG true x.roles
  obtain ⟨b1, h2⟩ := e85 (n := n) (by omega) p hp.short.roles x.roles
  obtain ⟨b2, b3, h3⟩ := e82 (n := n) (by omega) x.types p.types.l.length hp.short.types
  have h4 := e92 (n := n) (by omega) x.cls p.classes.l.length
  have h6 := e92 (n := n) (by omega) x.result p.roles.l.length
  have h5 := ih (i + 1) m u σ (by omega) (by omega)
  simp only [Int.natCast_add, Int.natCast_one] at h5
  refine Q2 ?_
  simp -implicitDefEqProofs +contextual [L56_1, B56_1, hi', hx, hwr, h1, h2, h3, h4, h5, h6, build0, -QZ.eq_1, -POp.sem.eq_17]
theorem l57_0 (hf : XN d p) : ∀ (k i m : Nat) (u : Qa) (σ : Sto), i + k = p.constrs.l.length → k < m →
  Ans (Qv 0 (L57_0 (cpJ PR n) (ciJ PR n) n p.d) m [.int .i64 i, u] σ) (doneI any) := by
 intro k
 induction k with
 | zero =>
  intro i m u σ hi hm
  obtain ⟨m, rfl⟩ : ∃ j, m = j + 1 := ⟨m - 1, by omega⟩
  have hi' : ¬ ((i : Int) < p.constrs.l.length) := by omega
  refine Q2 ?_
  simp -implicitDefEqProofs [L57_0, B57_0, hi']
 | succ k ih =>
  intro i m u σ hi hm
  obtain ⟨m, rfl⟩ : ∃ j, m = j + 1 := ⟨m - 1, by omega⟩
  have hlen := hp.constrs
  have hi' : ((i : Int) < p.constrs.l.length) := by omega
  obtain ⟨x, hx⟩ := Qz (l := p.constrs.l) (by omega : i < p.constrs.l.length)
  have hwr := QT (by omega : i < p.constrs.l.length) (by unfold maxLen; omega)
  obtain ⟨a1, h1⟩ := e90 (n := n) (by omega) p x.cls x.perms
  obtain ⟨b1, h2⟩ := e94 (n := n) hp.short (hf.constrs x (List.mem_of_getElem? hx)) x.validate (by omega)
  have h5 := ih (i + 1) m u σ (by omega) (by omega)
  simp only [Int.natCast_add, Int.natCast_one] at h5
  refine Q2 ?_
  simp -implicitDefEqProofs [L57_0, B57_0, hi', hx, hwr, h1, h2, h5]
end
end Go.Proofs.YtdibpeknpmhknaaGreat
namespace Go.Proofs.YtdibpeknpmhknaaGreat
open Go
section
variable {n d : Nat} (hn : maxLen + 1200 + d ≤ n) {p : Qw} (hp : Zh p) (hf : XN d p)
include hn hp hf
theorem l58_0 : ∀ (k i m : Nat) (u : Qa) (σ : Sto), i + k = p.files.l.length → k < m →
  Ans (Qv 1 (L58_0 (cpJ PR n) (ciJ PR n) n p.d) m [.int .i64 i, u] σ) (doneI any) := by
 intro k
 induction k with
 | zero =>
  intro i m u σ hi hm
  obtain ⟨m, rfl⟩ : ∃ j, m = j + 1 := ⟨m - 1, by omega⟩
  have hi' : ¬ ((i : Int) < p.files.l.length) := by omega
  refine Q2 ?_
  simp -implicitDefEqProofs [L58_0, B58_0, hi']
 | succ k ih =>
  intro i m u σ hi hm
  obtain ⟨m, rfl⟩ : ∃ j, m = j + 1 := ⟨m - 1, by omega⟩
  have hlen := hp.files
  have hi' : ((i : Int) < p.files.l.length) := by omega
  obtain ⟨x, hx⟩ := Qz (l := p.files.l) (by omega : i < p.files.l.length)
  have hwr := QT (by omega : i < p.files.l.length) (by unfold maxLen; omega)
  obtain ⟨a1, h1⟩ := e96 (n := n) (by omega) x.pattern (hf.files x (List.mem_of_getElem? hx)) (.int .i64 0) (.int .i64 0) rfl rfl rfl rfl
  obtain ⟨b1, h2⟩ := e95 (n := n) (by omega) p x.ctx
  have hb : ∀ (C : Qj) s, POp.sem C [.int .i64 3, .str s] (.build [.int .i64 0, .str [], .int .i64 0, .int .i64 0] [(0, 1), (1, 1)]) = some (.agg [.int .i64 3, .str s, .int .i64 0, .int .i64 0]) := fun _ _ => rfl
  have h5 := ih (i + 1) m u σ (by omega) (by omega)
  simp only [Int.natCast_add, Int.natCast_one] at h5
  refine Q2 ?_
  by_cases he : x.pattern = []
  ·simp -implicitDefEqProofs [L58_0, B58_0, hi', hx, he]
  ·have he' : List.isEmpty x.pattern = false := by simpa using he
   simp -implicitDefEqProofs +contextual [L58_0, B58_0, hi', hx, hwr, he, he', h1, h2, h5, hb, -POp.sem.eq_17]
theorem l58_1 : ∀ (k i m : Nat) (ns : List Bs) (v u : Qa) (σ : Sto), i + k = p.sids.l.length → k < m → ns.length = i → Own σ 1 v (YY ns) →
  Ans (Qv 0 (V3 (cpJ PR n) (ciJ PR n) n p.d) m [.int .i64 i, v, u] σ) (doneI any) := by
 intro k
 induction k with
 | zero =>
  intro i m ns v u σ hi hm hns hv
  obtain ⟨m, rfl⟩ : ∃ j, m = j + 1 := ⟨m - 1, by omega⟩
  have hi' : ¬ ((i : Int) < p.sids.l.length) := by omega
  have hlen := hp.files
  have h1 := Yt (l := 0) (f := V3 (cpJ PR n) (ciJ PR n) n p.d) (m := m) (l58_0 hn hp hf p.files.l.length 0 n u σ (by omega) (by omega))
  simp only [Int.natCast_zero] at h1
  refine Q2 ?_
  simp -implicitDefEqProofs [V3, En, hi', h1]
 | succ k ih =>
  intro i m ns v u σ hi hm hns hv
  obtain ⟨m, rfl⟩ : ∃ j, m = j + 1 := ⟨m - 1, by omega⟩
  have hlen := hp.sids
  have hi' : ((i : Int) < p.sids.l.length) := by omega
  obtain ⟨x, hx⟩ := Qz (l := p.sids.l) (by omega : i < p.sids.l.length)
  have hwr := QT (by omega : i < p.sids.l.length) (by unfold maxLen; omega)
  obtain ⟨z, hz⟩ := X7 hv
  obtain ⟨e, h1, -⟩ := nm1 (n := n) (by omega) x.name (hf.sids x (List.mem_of_getElem? hx)) z ns (by omega)
  obtain ⟨v', σ', h3, hv'⟩ := XD (own := 1) (r := [.str x.name]) hv (by rw [List.length_map]; omega)
  obtain ⟨b1, h2⟩ := e95 (n := n) (by omega) p x.ctx
  have h4 := ih (i + 1) m (ns ++ [x.name]) v' u σ' (by omega) (by omega) (by simp [hns]) (by simpa using hv')
  simp only [Int.natCast_add, Int.natCast_one] at h4
  refine Q2 ?_
  simp -implicitDefEqProofs [V3, En, hi', hx, hwr, hz, h1, h2, h3, h4]
theorem l59_0 : ∀ (k i m : Nat) (ns : List Bs) (v u : Qa) (σ : Sto), i + k = p.asserts.l.length → k < m → ns.length = i → Own σ 1 v (YY ns) →
  Ans (Qv 0 (L59_0 (cpJ PR n) (ciJ PR n) n p.d) m [.int .i64 i, v, u] σ) (doneI any) := by
 intro k
 induction k with
 | zero =>
  intro i m ns v u σ hi hm hns hv
  obtain ⟨m, rfl⟩ : ∃ j, m = j + 1 := ⟨m - 1, by omega⟩
  have hi' : ¬ ((i : Int) < p.asserts.l.length) := by omega
  refine Q2 ?_
  simp -implicitDefEqProofs [L59_0, B59_0, hi']
 | succ k ih =>
  intro i m ns v u σ hi hm hns hv
  obtain ⟨m, rfl⟩ : ∃ j, m = j + 1 := ⟨m - 1, by omega⟩
  have hlen := hp.asserts
  have hi' : ((i : Int) < p.asserts.l.length) := by omega
  obtain ⟨x, hx⟩ := Qz (l := p.asserts.l) (by omega : i < p.asserts.l.length)
  have hwr := QT (by omega : i < p.asserts.l.length) (by unfold maxLen; omega)
  obtain ⟨z, hz⟩ := X7 hv
  obtain ⟨e, h1, -⟩ := nm1 (n := n) (by omega) x.name (hf.asserts x (List.mem_of_getElem? hx)) z ns (by omega)
  obtain ⟨v', σ', h3, hv'⟩ := XD (own := 1) (r := [.str x.name]) hv (by rw [List.length_map]; omega)
  obtain ⟨a1, a2, h2⟩ := e82 (n := n) (by omega) x.source p.types.l.length hp.short.types
  obtain ⟨b1, b2, h5⟩ := e82 (n := n) (by omega) x.target p.types.l.length hp.short.types
  have h4 := ih (i + 1) m (ns ++ [x.name]) v' u σ' (by omega) (by omega) (by simp [hns]) (by simpa using hv')
  simp only [Int.natCast_add, Int.natCast_one] at h4
  refine Q2 ?_
  simp -implicitDefEqProofs +contextual [L59_0, B59_0, hi', hx, hwr, hz, h1, h2, h3, h4, h5]
theorem e54 : ∃ i, cpJ PR (n + 1) 54 [p.d] = some (.int .i64 i) := by
 have hlen := hp.conds
 obtain ⟨i, σ, h, -⟩ := (l54_1 hn hp hf p.conds.l.length 0 n (.int .i64 0) Qd (by omega) (by omega)).doneI
 simp only [Int.natCast_zero] at h
 have : Ans (cpJ PR (n + 1) 54 [p.d]) (isI any) := by
  rw [u54]
  refine Zw ?_
  simp -implicitDefEqProofs [D54, h]
 obtain ⟨b, h, -⟩ := this.int
 exact ⟨b, h⟩
theorem e55 : ∃ i, cpJ PR (n + 1) 55 [p.d] = some (.int .i64 i) := by
 have hlen := hp.trans
 obtain ⟨i, σ, h, -⟩ := (l55_1 hn hp hf Qd.nobj p.trans.l.length 0 n (.int .i64 0) (Qd.new (.agg [.int .i64 0, .int .i64 0, .int .i64 0, .int .i64 0])) (λ_=> 0) (by omega) (by omega) (by simp) (by rw [Sto.new_obj]; rfl)).doneI
 simp only [Int.natCast_zero] at h
 have : Ans (cpJ PR (n + 1) 55 [p.d]) (isI any) := by
  rw [u55]
  refine Zw ?_
  simp -implicitDefEqProofs [D55, alloc_obj, h]
 obtain ⟨b, h, -⟩ := this.int
 exact ⟨b, h⟩
omit hf in
theorem e56 : ∃ i, cpJ PR (n + 1) 56 [p.d] = some (.int .i64 i) := by
 have hlen := hp.roleTrans
 obtain ⟨i, σ, h, -⟩ := (l56_1 hn hp p.roleTrans.l.length 0 n (.int .i64 0) Qd (by omega) (by omega)).doneI
 simp only [Int.natCast_zero] at h
 have : Ans (cpJ PR (n + 1) 56 [p.d]) (isI any) := by
  rw [u56]
  refine Zw ?_
  simp -implicitDefEqProofs [D56, h]
 obtain ⟨b, h, -⟩ := this.int
 exact ⟨b, h⟩
theorem e57 : ∃ i, cpJ PR (n + 1) 57 [p.d] = some (.int .i64 i) := by
 have hlen := hp.constrs
 obtain ⟨i, σ, h, -⟩ := (l57_0 hn hp hf p.constrs.l.length 0 n (.int .i64 0) Qd (by omega) (by omega)).doneI
 simp only [Int.natCast_zero] at h
 have : Ans (cpJ PR (n + 1) 57 [p.d]) (isI any) := by
  rw [u57]
  refine Zw ?_
  simp -implicitDefEqProofs [D57, h]
 obtain ⟨b, h, -⟩ := this.int
 exact ⟨b, h⟩
theorem e58 : ∃ i, cpJ PR (n + 1) 58 [p.d] = some (.int .i64 i) := by
 have hlen := hp.sids
 obtain ⟨i, σ, h, -⟩ := (l58_1 hn hp hf p.sids.l.length 0 n [] .nils (.int .i64 0) Qd (by omega) (by omega) rfl (X5 _ _)).doneI
 simp only [Int.natCast_zero] at h
 have : Ans (cpJ PR (n + 1) 58 [p.d]) (isI any) := by
  rw [u58]
  refine Zw ?_
  simp -implicitDefEqProofs [D58, h]
 obtain ⟨b, h, -⟩ := this.int
 exact ⟨b, h⟩
theorem e59 : ∃ i, cpJ PR (n + 1) 59 [p.d] = some (.int .i64 i) := by
 have hlen := hp.asserts
 obtain ⟨i, σ, h, -⟩ := (l59_0 hn hp hf p.asserts.l.length 0 n [] .nils (.int .i64 0) Qd (by omega) (by omega) rfl (X5 _ _)).doneI
 simp only [Int.natCast_zero] at h
 have : Ans (cpJ PR (n + 1) 59 [p.d]) (isI any) := by
  rw [u59]
  refine Zw ?_
  simp -implicitDefEqProofs [D59, h]
 obtain ⟨b, h, -⟩ := this.int
 exact ⟨b, h⟩
end
def V9 : List Int → Int
 | [] => 0
 | x :: r => if x = 0 then V9 r else x
theorem Wt : ∀ {l : List Int}, V9 l = 0 → ∀ x ∈ l, x = 0
 | [], _, _, h => by simp at h
 | y :: r, h, x, hx => by
  unfold V9 at h
  split at h
  ·rename_i e
   rcases List.mem_cons.1 hx with rfl | hx
   ·exact e
   ·exact Wt h x hx
  ·rename_i e; exact absurd h e
theorem l48 {n : Nat} (l : List Int) (hl : l.length ≤ 100) (σ : Sto) : ∀ (k i m : Nat) (u : Qa), i + k = l.length → k < m →
  Qv 0 (L48_0 (cpJ PR n) (ciJ PR n) n (.slice false 1 1 (l.map λx=> [.int .i64 x]))) m [.int .i64 i, u] σ = some (.done (.int .i64 (V9 (l.drop i))) σ) := by
 intro k
 induction k with
 | zero =>
  intro i m u hi hm
  obtain ⟨m, rfl⟩ : ∃ j, m = j + 1 := ⟨m - 1, by omega⟩
  have hi' : ¬ ((i : Int) < l.length) := by omega
  refine Qt ?_
  rw [List.drop_eq_nil_of_le (by omega)]
  simp -implicitDefEqProofs [L48_0, B48_0, hi', V9]
 | succ k ih =>
  intro i m u hi hm
  obtain ⟨m, rfl⟩ : ∃ j, m = j + 1 := ⟨m - 1, by omega⟩
  have hi' : ((i : Int) < l.length) := by omega
  obtain ⟨x, hx⟩ := Qz (by omega : i < l.length)
  have hwr := QT (by omega : i < l.length) (by unfold maxLen; omega)
  rw [QY hx]
  by_cases e : x = 0
  ·subst e
   refine (Qx (vs' := [.int .i64 ((i + 1 : Nat) : Int), u]) (σ' := σ) ?_).trans ((ih (i + 1) m u (by omega) (by omega)).trans ?_)
   ·simp -implicitDefEqProofs [L48_0, B48_0, hi', hx, hwr]
   ·simp [V9]
  ·refine Qt ?_
   simp -implicitDefEqProofs [L48_0, B48_0, hi', hx, e, V9]
theorem e48 {n : Nat} (hn : 200 ≤ n) (l : List Int) (hl : l.length ≤ 100) : cpJ PR n 48 [.slice false 1 1 (l.map λx=> [.int .i64 x])] = some (.int .i64 (V9 l)) := by
 obtain ⟨n, rfl⟩ : ∃ m, n = m + 1 := ⟨n - 1, by omega⟩
 have h := l48 (n := n) l hl Qd l.length 0 n (.int .i64 0) (by omega) (by omega)
 simp only [Int.natCast_zero, List.drop_zero] at h
 rw [u48]
 simp -implicitDefEqProofs [D48, h]
structure Right (p : Qw) : Prop where
 types : Xz (ZB p.types.l) []
 roles : JK p
 users : Xz (p.users.l.map QU.name) []
 cats : Cats p
theorem e24 {n d : Nat} (hn : maxLen + 1400 + d ≤ n) {p : Qw} (hp : Zh p) (hf : XN d p) : ∃ i, cpJ PR n 24 [p.d] = some (.int .i64 i) ∧ (i = 0 → Right p) := by
 obtain ⟨n, rfl⟩ : ∃ m, n = m + 2 := ⟨n - 2, by omega⟩
 obtain ⟨i1, h1⟩ := e49 (n := n + 1) (by omega) hf hp
 obtain ⟨i2, h2, k2⟩ := e50 (n := n + 1) (by omega) hf hp
 obtain ⟨i3, h3, k3⟩ := e51 (n := n + 1) (by omega) hf hp
 obtain ⟨i4, h4, k4⟩ := e52 (n := n + 1) (by omega) hf hp
 obtain ⟨i5, h5, k5⟩ := e53 (n := n + 1) (by omega) hf hp
 obtain ⟨i6, h6⟩ := e54 (n := n) (d := d) (by omega) hp hf
 obtain ⟨i7, h7⟩ := e55 (n := n) (d := d) (by omega) hp hf
 obtain ⟨i8, h8⟩ := e56 (n := n) (d := d) (by omega) hp
 obtain ⟨i9, h9⟩ := e57 (n := n) (d := d) (by omega) hp hf
 obtain ⟨i10, h10⟩ := e58 (n := n) (d := d) (by omega) hp hf
 obtain ⟨i11, h11⟩ := e59 (n := n) (d := d) (by omega) hp hf
 have f1 := e48 (n := n + 1) (by omega) [i1, i2, i3] (by simp)
 have f2 := e48 (n := n + 1) (by omega) [i4, i5, i6, i7, i8, i9, i10, i11] (by simp)
 simp only [List.map_cons, List.map_nil] at f1 f2
 have : Ans (cpJ PR (n + 2) 24 [p.d]) (isI λi=> i = 0 → Right p) := by
  rw [u24]
  refine Zw ?_
  simp -implicitDefEqProofs [D24, h1, h2, h3, h4, h5, h6, h7, h8, h9, h10, h11, f1, f2]
  refine ⟨fun a b => absurd b a, fun a b => ?_⟩
  have q1 := Wt a
  have q2 := Wt b
  exact ⟨k2 (q1 _ (by simp)), k3 (q1 _ (by simp)), k4 (q2 _ (by simp)), k5 (q2 _ (by simp))⟩
 exact this.int
end Go.Proofs.YtdibpeknpmhknaaGreat
namespace Go.Proofs.YtdibpeknpmhknaaGreat
open Go
theorem UB {Q : Bool → Prop} {l : Nat} {f : List Qa → Sto → Option Out} {m : Nat} {o : Option Out} (h : Ans o (doneB Q)) : Ans o (stepR l f m (doneB Q)) :=
 h.mono fun x hx => by
  cases x with
  | done v σ => exact hx
  | next i vs σ => exact hx.elim
structure Lens (p : Qw) : Prop where
 types : p.types.l.length ≤ 12
 attrs : p.attrs.l.length ≤ 6
 classes : p.classes.l.length ≤ 6
 rules : p.rules.l.length ≤ 40
 conds : p.conds.l.length ≤ 6
 bools : p.bools.l.length ≤ 6
 constrs : p.constrs.l.length ≤ 12
 users : p.users.l.length ≤ 8
 roles : p.roles.l.length ≤ 8
 trans : p.trans.l.length ≤ 36
 roleTrans : p.roleTrans.l.length ≤ 12
 ranges : p.ranges.l.length ≤ 12
 sens : p.sens.l.length ≤ 6
 cats : p.cats.l.length ≤ 10
 sids : p.sids.l.length ≤ 8
 files : p.files.l.length ≤ 12
 asserts : p.asserts.l.length ≤ 8
section
variable {n d : Nat} (hn : maxLen + 100 + d ≤ n) {p : Qw} (hp : Lens p) (hf : XN d p) (a : Nat)
include hn hp hf
theorem l23_0 (h0 : ∀ t ∈ p.types.l, t.aliases.l.length ≤ 4) : ∀ (k i m : Nat) (u : Qa) (σ : Sto) (g : Nat → Int), i + k = p.constrs.l.length → k < m → a < σ.nobj → σ.obj a = Wk 4 (λj=> .int .i64 (g j)) →
  Ans (Qv 3 (L23_0 (cpJ PR n) (ciJ PR n) n p.d (.obj a 0)) m [.int .i64 i, u] σ) (doneB λb=> b = true → ∀ t ∈ p.types.l, t.aliases.l.length ≤ 4) := by
 intro k
 induction k with
 | zero =>
  intro i m u σ g hi hm ha ho
  obtain ⟨m, rfl⟩ : ∃ j, m = j + 1 := ⟨m - 1, by omega⟩
  have hi' : ¬ ((i : Int) < p.constrs.l.length) := by omega
  have h1 := Yv (i := 1) ho ha (by omega)
  have h2 := Yv (i := 2) ho ha (by omega)
  have h3 := Yv (i := 3) ho ha (by omega)
  have h4 : ∀ b : Bool, b = true → ∀ t ∈ p.types.l, t.aliases.l.length ≤ 4 := fun _ _ => h0
  refine Q2 ?_
  by_cases q1 : g 1 ≤ 12 <;> by_cases q2 : g 2 ≤ 12 <;> simp -implicitDefEqProofs [L23_0, B23_0, hi', h1, h2, h3, q1, q2] <;> exact λ_=> h0
 | succ k ih =>
  intro i m u σ g hi hm ha ho
  obtain ⟨m, rfl⟩ : ∃ j, m = j + 1 := ⟨m - 1, by omega⟩
  have hlen := hp.constrs
  have hi' : ((i : Int) < p.constrs.l.length) := by omega
  obtain ⟨x, hx⟩ := Qz (l := p.constrs.l) (by omega : i < p.constrs.l.length)
  have hwr := QT (by omega : i < p.constrs.l.length) (by unfold maxLen; omega)
  obtain ⟨j, h1⟩ := e47 (n := n) (hf.constrs x (List.mem_of_getElem? hx)) (by omega)
  have h5 := ih (i + 1) m u σ g (by omega) (by omega) ha ho
  simp only [Int.natCast_add, Int.natCast_one] at h5
  refine Q2 ?_
  simp -implicitDefEqProofs [L23_0, B23_0, hi', hx, hwr, h1, h5]
theorem l23_1 (h0 : ∀ t ∈ p.types.l, t.aliases.l.length ≤ 4) : ∀ (k i m : Nat) (u : Qa) (σ : Sto) (g : Nat → Int), i + k = p.conds.l.length → k < m → a < σ.nobj → σ.obj a = Wk 4 (λj=> .int .i64 (g j)) →
  Ans (Qv 2 (L23_1 (cpJ PR n) (ciJ PR n) n p.d (.obj a 0)) m [.int .i64 i, u] σ) (doneB λb=> b = true → ∀ t ∈ p.types.l, t.aliases.l.length ≤ 4) := by
 intro k
 induction k with
 | zero =>
  intro i m u σ g hi hm ha ho
  obtain ⟨m, rfl⟩ : ∃ j, m = j + 1 := ⟨m - 1, by omega⟩
  have hi' : ¬ ((i : Int) < p.conds.l.length) := by omega
  have hlen := hp.constrs
  have h1 := UB (l := 2) (f := L23_1 (cpJ PR n) (ciJ PR n) n p.d (.obj a 0)) (m := m) (l23_0 hn hp hf a h0 p.constrs.l.length 0 n u σ g (by omega) (by omega) ha ho)
  simp only [Int.natCast_zero] at h1
  refine Q2 ?_
  simp -implicitDefEqProofs [L23_1, B23_1, hi', h1]
 | succ k ih =>
  intro i m u σ g hi hm ha ho
  obtain ⟨m, rfl⟩ : ∃ j, m = j + 1 := ⟨m - 1, by omega⟩
  have hlen := hp.conds
  have hi' : ((i : Int) < p.conds.l.length) := by omega
  obtain ⟨x, hx⟩ := Qz (l := p.conds.l) (by omega : i < p.conds.l.length)
  have hwr := QT (by omega : i < p.conds.l.length) (by unfold maxLen; omega)
  obtain ⟨j, h1⟩ := e47 (n := n) (hf.conds x (List.mem_of_getElem? hx)) (by omega)
  have h5 := ih (i + 1) m u σ g (by omega) (by omega) ha ho
  simp only [Int.natCast_add, Int.natCast_one] at h5
  refine Q2 ?_
  simp -implicitDefEqProofs [L23_1, B23_1, hi', hx, hwr, h1, h5]
theorem l23_2 : ∀ (k i m : Nat) (u : Qa) (σ : Sto) (g : Nat → Int), i + k = p.types.l.length → k < m → a < σ.nobj → σ.obj a = Wk 4 (λj=> .int .i64 (g j)) → (∀ t ∈ p.types.l.take i, t.aliases.l.length ≤ 4) →
  Ans (Qv 1 (L23_2 (cpJ PR n) (ciJ PR n) n p.d (.obj a 0)) m [.int .i64 i, u] σ) (doneB λb=> b = true → ∀ t ∈ p.types.l, t.aliases.l.length ≤ 4) := by
 intro k
 induction k with
 | zero =>
  intro i m u σ g hi hm ha ho h0
  obtain ⟨m, rfl⟩ : ∃ j, m = j + 1 := ⟨m - 1, by omega⟩
  have hi' : ¬ ((i : Int) < p.types.l.length) := by omega
  rw [List.take_of_length_le (by omega)] at h0
  have hlen := hp.conds
  have h1 := UB (l := 1) (f := L23_2 (cpJ PR n) (ciJ PR n) n p.d (.obj a 0)) (m := m) (l23_1 hn hp hf a h0 p.conds.l.length 0 n u σ g (by omega) (by omega) ha ho)
  simp only [Int.natCast_zero] at h1
  refine Q2 ?_
  simp -implicitDefEqProofs [L23_2, B23_2, hi', h1]
 | succ k ih =>
  intro i m u σ g hi hm ha ho h0
  obtain ⟨m, rfl⟩ : ∃ j, m = j + 1 := ⟨m - 1, by omega⟩
  have hlen := hp.types
  have hi' : ((i : Int) < p.types.l.length) := by omega
  obtain ⟨x, hx⟩ := Qz (l := p.types.l) (by omega : i < p.types.l.length)
  have hwr := QT (by omega : i < p.types.l.length) (by unfold maxLen; omega)
  refine Q2 ?_
  by_cases hal : x.aliases.l.length ≤ 4
  ·have h5 := ih (i + 1) m u σ g (by omega) (by omega) ha ho (by
    rw [Zp hx]
    intro t ht
    rcases List.mem_append.1 ht with ht | ht
    ·exact h0 t ht
    ·rw [List.mem_singleton.1 ht]; exact hal)
   simp only [Int.natCast_add, Int.natCast_one] at h5
   have hal' : ¬ (4 : Int) < x.aliases.l.length := by omega
   simp -implicitDefEqProofs [L23_2, B23_2, hi', hx, hwr, hal', h5]
  ·have hal' : (4 : Int) < x.aliases.l.length := by omega
   simp -implicitDefEqProofs [L23_2, B23_2, hi', hx, hal']
theorem l23_3 : ∀ (k i m : Nat) (σ : Sto) (g : Nat → Int), i + k = p.trans.l.length → k < m → a < σ.nobj → σ.obj a = Wk 4 (λj=> .int .i64 (g j)) →
  Ans (Qv 0 (HG (cpJ PR n) (ciJ PR n) n p.d (.obj a 0)) m [.int .i64 i] σ) (doneB λb=> b = true → ∀ t ∈ p.types.l, t.aliases.l.length ≤ 4) := by
 intro k
 induction k with
 | zero =>
  intro i m σ g hi hm ha ho
  obtain ⟨m, rfl⟩ : ∃ j, m = j + 1 := ⟨m - 1, by omega⟩
  have hi' : ¬ ((i : Int) < p.trans.l.length) := by omega
  have hlen := hp.types
  have h1 := UB (l := 0) (f := HG (cpJ PR n) (ciJ PR n) n p.d (.obj a 0)) (m := m) (l23_2 hn hp hf a p.types.l.length 0 n (.bool false) σ g (by omega) (by omega) ha ho (by simp))
  simp only [Int.natCast_zero] at h1
  refine Q2 ?_
  simp -implicitDefEqProofs [HG, B23_3, hi', h1]
 | succ k ih =>
  intro i m σ g hi hm ha ho
  obtain ⟨m, rfl⟩ : ∃ j, m = j + 1 := ⟨m - 1, by omega⟩
  have hlen := hp.trans
  have hi' : ((i : Int) < p.trans.l.length) := by omega
  obtain ⟨x, hx⟩ := Qz (l := p.trans.l) (by omega : i < p.trans.l.length)
  have hwr := QT (by omega : i < p.trans.l.length) (by unfold maxLen; omega)
  refine Q2 ?_
  by_cases hk : 0 < x.kind ∧ x.kind < 4
  ·obtain ⟨j, hj⟩ : ∃ j : Nat, x.kind = j := ⟨x.kind.toNat, by omega⟩
   rw [hj] at hk
   have k1 : 0 < j := by omega
   have k2 := hk.2
   have h1 := YN (id := a) (j := j) (by omega)
   have h2 := Yv (i := j) ho ha (by omega)
   have h3 := Gb (i := j) (v := .int .i64 (IntKind.i64.wrap (g j + 1))) ho ha (by omega) rfl rfl
   have e : upd (λj=> Qa.int .i64 (g j)) j (.int .i64 (IntKind.i64.wrap (g j + 1))) = λi=> .int .i64 (upd g j (IntKind.i64.wrap (g j + 1)) i) := by
    funext i; simp only [upd]; split <;> rfl
   rw [e] at h3
   clear e
   generalize upd g j (IntKind.i64.wrap (g j + 1)) = g' at h3
   have h5 := ih (i + 1) m (σ.put a (Wk 4 λi=> .int .i64 (g' i))) g' (by omega) (by omega) (by simpa using ha) (by rw [Sto.put_obj])
   simp only [Int.natCast_add, Int.natCast_one] at h5
   simp -implicitDefEqProofs [HG, B23_3, hi', hx, hwr, hj, k1, k2, h1, h2, h3, h5, -Zb.eq_1]
  ·have h5 := ih (i + 1) m σ g (by omega) (by omega) ha ho
   simp only [Int.natCast_add, Int.natCast_one] at h5
   by_cases k1 : 0 < x.kind
   ·have k2 : ¬ x.kind < 4 := λh=> hk ⟨k1, h⟩
    simp -implicitDefEqProofs [HG, B23_3, hi', hx, hwr, k1, k2, h5]
   ·simp -implicitDefEqProofs [HG, B23_3, hi', hx, hwr, k1, h5]
end
theorem e23 {n d : Nat} (hn : maxLen + 200 + d ≤ n) {p : Qw} (hf : XN d p) : ∃ b, cpJ PR n 23 [p.d] = some (.bool b) ∧ (b = true → Zh p) := by
 obtain ⟨n, rfl⟩ : ∃ m, n = m + 1 := ⟨n - 1, by omega⟩
 have : Ans (cpJ PR (n + 1) 23 [p.d]) (isB λb=> b = true → Zh p) := by
  rw [u23]
  refine Zw ?_
  simp -implicitDefEqProofs +contextual [D23, alloc_obj]
  intro q1 q2 q3 q4 q5 q6 q7 q8 q9 q10 q11 q12 q13 q14 q15 q16 q17
  have hp : Lens p := ⟨by omega, by omega, by omega, by omega, by omega, by omega, by omega, by omega, by omega, by omega, by omega, by omega, by omega, by omega, by omega, by omega, by omega⟩
  obtain ⟨b, σ, h, hb⟩ := (l23_3 (n := n) (by omega) hp hf Qd.nobj p.trans.l.length 0 n (Qd.new (.agg [.int .i64 0, .int .i64 0, .int .i64 0, .int .i64 0])) (λ_=> 0) (by omega) (by omega) (by simp) (by rw [Sto.new_obj]; rfl)).doneB
  simp only [Int.natCast_zero] at h
  rw [h]
  simp
  exact λe=> ⟨hp.types, hp.attrs, hp.classes, hp.rules, hp.conds, hp.bools, hp.constrs, hp.users, hp.roles, hp.trans, hp.roleTrans, hp.ranges, hp.sens, hp.cats, hp.sids, hp.files, hp.asserts, hb e⟩
 exact this.bool
structure Zg (p : Qw) : Prop extends Right p where
 small : Zh p
theorem e8 {n d : Nat} (hn : maxLen + 2000 + d ≤ n) {p : Qw} (hf : XN d p) : ∃ b, cpJ PR n 8 [p.d] = some (.bool b) ∧ (b = true → Zg p) := by
 obtain ⟨n, rfl⟩ : ∃ m, n = m + 1 := ⟨n - 1, by omega⟩
 obtain ⟨b, h1, hb⟩ := e23 (n := n) (by omega) hf
 cases b with
 | false => exact ⟨false, by rw [u8]; simp -implicitDefEqProofs [D8, h1], λh=> by cases h⟩
 | true =>
  obtain ⟨i, h2, hi⟩ := e24 (n := n) (by omega) (hb rfl) hf
  refine ⟨i == 0, by rw [u8]; simp -implicitDefEqProofs [D8, h1, h2], λh=> ?_⟩
  have hi0 : i = 0 := by simpa using h
  have hr := hi hi0
  exact ⟨⟨hr.types, hr.roles, hr.users, hr.cats⟩, hb rfl⟩
end Go.Proofs.YtdibpeknpmhknaaGreat
namespace Go.Proofs.YtdibpeknpmhknaaGreat
open Go
def XQ (c : Nat) : Nat → Nat → Nat
 | 0, t => t
 | k + 1, t => if t + 1 < 64 ∧ c.testBit (t + 1) = true then XQ c k (t + 1) else t
def XO (c : Nat) : Nat → Nat → List (Nat × Nat)
 | 0, _ => []
 | k + 1, i => if i < 64 then (if c.testBit i = true then (i, XQ c 64 i) :: XO c k (XQ c 64 i + 1) else XO c k (i + 1)) else []
theorem Hc {c : Nat} : ∀ {k t : Nat}, t ≤ 63 → t ≤ XQ c k t ∧ XQ c k t ≤ 63
 | 0, t, h => ⟨Nat.le_refl _, h⟩
 | k + 1, t, h => by
  unfold XQ
  split
  ·rename_i hc
   have := Hc (c := c) (k := k) (t := t + 1) (by omega)
   omega
  ·omega
theorem endR_bit {c : Nat} : ∀ {k t : Nat}, c.testBit t = true → c.testBit (XQ c k t) = true
 | 0, t, h => h
 | k + 1, t, h => by
  unfold XQ
  split
  ·rename_i hc; exact endR_bit hc.2
  ·exact h
theorem E7 {c : Nat} : ∀ {k i : Nat}, (∀ j, i ≤ j → c.testBit j = false) → XO c k i = []
 | 0, i, h => rfl
 | k + 1, i, h => by
  unfold XO
  rw [h i (Nat.le_refl _)]
  simp only [Bool.false_eq_true, if_false]
  split
  ·exact E7 fun j hj => h j (by omega)
  ·rfl
theorem Xc {c : Nat} : ∀ {k i : Nat} {p : Nat × Nat}, p ∈ XO c k i → c.testBit p.1 = true ∧ c.testBit p.2 = true ∧ p.1 ≤ p.2 ∧ i ≤ p.1 ∧ p.2 ≤ 63
 | 0, i, p, h => by simp [XO] at h
 | k + 1, i, p, h => by
  unfold XO at h
  split at h
  ·split at h
   ·rename_i h1 h2
    have := Hc (c := c) (k := 64) (t := i) (by omega)
    simp only [List.mem_cons] at h
    rcases h with rfl | h
    ·exact ⟨h2, endR_bit h2, this.1, Nat.le_refl _, this.2⟩
    ·have := Xc h; exact ⟨this.1, this.2.1, this.2.2.1, by omega, this.2.2.2.2⟩
   ·have := Xc h; exact ⟨this.1, this.2.1, this.2.2.1, by omega, this.2.2.2.2⟩
  ·simp at h
theorem YW {c : Nat} : ∀ {k i : Nat}, (XO c k i).length ≤ k
 | 0, i => Nat.le_refl _
 | k + 1, i => by
  unfold XO
  split
  ·split
   ·have := YW (c := c) (k := k) (i := XQ c 64 i + 1)
    simp; omega
   ·have := YW (c := c) (k := k) (i := i + 1)
    omega
  ·simp
def XB (p : Nat × Nat) : List Qa := [.int .i64 p.1, .int .i64 p.2]
theorem l147_0 {n : Nat} (c : Nat) (hc : c < 18446744073709551616) (σ : Sto) (es : List (List Qa)) (hes : es.length ≤ 64) (i : Nat) : ∀ (k t m : Nat), 63 ≤ t + k → t ≤ 63 → k < m →
  Qv 1 (Gu (cpJ PR n) (ciJ PR n) n (.int .u64 c) (apd σ 2 es).1) m [.agg [.int .i64 i, .int .i64 t]] (apd σ 2 es).2 =
   some (.next 0 [.int .i64 ((XQ c k t + 1 : Nat) : Int), (apd σ 2 (es ++ [XB (i, XQ c k t)])).1] (apd σ 2 (es ++ [XB (i, XQ c k t)])).2) := by
 intro k
 induction k with
 | zero =>
  intro t m ht ht' hm
  obtain ⟨m, rfl⟩ : ∃ q, m = q + 1 := ⟨m - 1, by omega⟩
  refine YV ?_ (by decide)
  have hw : IntKind.i64.wrap ((t : Int) + 1) = (t : Int) + 1 := Ze (by omega) (by omega)
  have h64 : ¬ ((t : Int) + 1 < 64) := by omega
  have ha := Hg (σ := σ) (sz := 2) (own := 1) (es := es) (r := XB (i, t)) (by omega)
  simp only [XB] at ha
  simp -implicitDefEqProofs [Gu, HD, hw, h64, ha, XQ, XB]
 | succ k ih =>
  intro t m ht ht' hm
  obtain ⟨m, rfl⟩ : ∃ q, m = q + 1 := ⟨m - 1, by omega⟩
  have hw : IntKind.i64.wrap ((t : Int) + 1) = (t : Int) + 1 := Ze (by omega) (by omega)
  have ha := Hg (σ := σ) (sz := 2) (own := 1) (es := es) (r := XB (i, t)) (by omega)
  simp only [XB] at ha
  have hb := G0 c hc (t + 1)
  have hneg : ¬ ((t : Int) + 1 < 0) := by omega
  by_cases h64 : (t : Int) + 1 < 64
  ·have hmin : min (t + 1) 64 = t + 1 := by omega
   have h64' : t + 1 < 64 := by omega
   cases hbit : c.testBit (t + 1) with
   | true =>
    rw [hbit] at hb
    simp only [if_true] at hb
    rw [Qx (vs' := [.agg [.int .i64 i, .int .i64 ((t + 1 : Nat) : Int)]]) (σ' := (apd σ 2 es).2), ih (t + 1) m (by omega) (by omega) (by omega)]
    ·simp [XQ, h64', hbit]
    ·simp -implicitDefEqProofs [Gu, HD, hw, h64, hneg, hmin, IntKind.bits, hb, -Int.natCast_pow]
   | false =>
    rw [hbit] at hb
    refine YV ?_ (by decide)
    have e : XQ c (k + 1) t = t := by simp [XQ, hbit]
    rw [e]
    simp -implicitDefEqProofs [Gu, HD, hw, h64, hneg, hmin, IntKind.bits, hb, ha, XB, -Int.natCast_pow]
  ·refine YV ?_ (by decide)
   have e : XQ c (k + 1) t = t := by
    have : ¬ (t + 1 < 64) := by omega
    simp [XQ, this]
   rw [e]
   simp -implicitDefEqProofs [Gu, HD, hw, h64, ha, XB]
theorem l147_1 {n : Nat} (hn : 100 ≤ n) (c : Nat) (hc : c < 18446744073709551616) (σ : Sto) : ∀ (k i m : Nat) (es : List (List Qa)), 64 ≤ i + k → i ≤ 64 → k < m → es.length ≤ i →
  Qv 0 (Gr (cpJ PR n) (ciJ PR n) n (.int .u64 c)) m [.int .i64 i, (apd σ 2 es).1] (apd σ 2 es).2 =
   some (.done (apd σ 2 (es ++ (XO c k i).map XB)).1 (apd σ 2 (es ++ (XO c k i).map XB)).2) := by
 intro k
 induction k with
 | zero =>
  intro i m es hi hi' hm hes
  obtain ⟨m, rfl⟩ : ∃ q, m = q + 1 := ⟨m - 1, by omega⟩
  obtain rfl : i = 64 := by omega
  refine Qt ?_
  simp -implicitDefEqProofs [Gr, H1, XO]
 | succ k ih =>
  intro i m es hi hi' hm hes
  obtain ⟨m, rfl⟩ : ∃ q, m = q + 1 := ⟨m - 1, by omega⟩
  by_cases h64 : (i : Int) < 64
  ·have hlt : i < 64 := by omega
   have hb := G0 c hc i
   have hneg : ¬ ((i : Int) < 0) := by omega
   have hmin : min i 64 = i := by omega
   have hw : IntKind.i64.wrap ((i : Int) + 1) = (i : Int) + 1 := Ze (by omega) (by omega)
   have hl := l147_0 (n := n) c hc σ es (by omega) i 64 i n (by omega) (by omega) (by omega)
   unfold XO
   cases hbit : c.testBit i with
   | true =>
    rw [hbit] at hb
    simp only [if_true] at hb
    have he := Hc (c := c) (k := 64) (t := i) (by omega)
    rw [Qx (vs' := [.int .i64 ((XQ c 64 i + 1 : Nat) : Int), (apd σ 2 (es ++ [XB (i, XQ c 64 i)])).1]) (σ' := (apd σ 2 (es ++ [XB (i, XQ c 64 i)])).2), ih (XQ c 64 i + 1) m _ (by omega) (by omega) (by omega) (by simp; omega)]
    ·simp [hlt]
    ·rw [← hl]
     simp -implicitDefEqProofs [Gr, H1, hw, h64, hneg, hmin, IntKind.bits, hb, -Int.natCast_pow]
   | false =>
    rw [hbit] at hb
    rw [Qx (vs' := [.int .i64 ((i + 1 : Nat) : Int), (apd σ 2 es).1]) (σ' := (apd σ 2 es).2), ih (i + 1) m es (by omega) (by omega) (by omega) (by omega)]
    ·simp [hlt]
    ·simp -implicitDefEqProofs [Gr, H1, hw, h64, hneg, hmin, IntKind.bits, hb, -Int.natCast_pow]
  ·have hlt : ¬ i < 64 := by omega
   refine Qt ?_
   simp -implicitDefEqProofs [Gr, H1, h64, XO, hlt]
def GU (c : Nat) : List (Nat × Nat) := XO c 64 0
theorem e147 {n : Nat} (hn : 110 ≤ n) (c : Nat) (hc : c < 18446744073709551616) : cpJ PR n 147 [.int .u64 c] = some (frD 2 ((GU c).map XB)) := by
 obtain ⟨n, rfl⟩ : ∃ m, n = m + 1 := ⟨n - 1, by omega⟩
 have := l147_1 (n := n) (by omega) c hc Qd 64 0 n [] (by omega) (by omega) (by omega) (by simp)
 rw [u147]
 simp only [Int.natCast_zero, List.nil_append] at this
 have e : apd Qd 2 [] = (.nils, Qd) := rfl
 rw [e] at this
 simp -implicitDefEqProofs [D147, this, GU]
end Go.Proofs.YtdibpeknpmhknaaGreat
namespace Go.Proofs.YtdibpeknpmhknaaGreat
open Go
def nm (l : List (List UInt8)) (i : Nat) : List UInt8 := l.getD i []
theorem Yx {l : List (List UInt8)} {i : Nat} (h : i < l.length) : l[i]? = some (nm l i) := by
 unfold nm
 rw [List.getD_eq_getElem?_getD, List.getElem?_eq_getElem h]; rfl
theorem YH {l : List (List UInt8)} {i : Nat} (h : i < l.length) : nm l i ∈ l := List.mem_of_getElem? (Yx h)
def Z9 (cats : List (List UInt8)) (p : Nat × Nat) : List Qa := [.str (nm cats p.1), .str (if p.1 < p.2 then nm cats p.2 else [])]
abbrev ltD (name : List UInt8) (rows : List (List Qa)) : Qa := .agg [.str name, slD .nil 2 rows]
theorem hasC_succ (c : Nat) (t : Nat) : hasC c ((t : Int) + 1) = true ↔ t + 1 < 64 ∧ c.testBit (t + 1) = true := by
 unfold hasC
 simp only [Bool.and_eq_true, decide_eq_true_eq]
 constructor
 ·rintro ⟨⟨-, h2⟩, h3⟩
  exact ⟨by omega, by simpa using h3⟩
 ·rintro ⟨h1, h2⟩
  exact ⟨⟨by omega, by omega⟩, by simpa using h2⟩
theorem l158_0 {n : Nat} (hn : 2 ≤ n) (z : Zs) (cats : List (List UInt8)) (s : Int) (c : Nat) (hc : c < 18446744073709551616) (hv : ∀ j, c.testBit j = true → j < cats.length) (σ : Sto) (es : List (List Qa)) (hes : es.length ≤ 1000) (i : Nat) :
  ∀ (k t m : Nat), 63 ≤ t + k → i ≤ t → t ≤ 63 → k < m →
  Qv 1 (Hl (cpJ PR n) (ciJ PR n) n (Zc z cats) (lv s c) (apd σ 2 es).1) m [.int .i64 t, .agg [.str (nm cats i), .str (if i < t then nm cats t else [])]] (apd σ 2 es).2 =
   some (.next 0 [.int .i64 ((XQ c k t + 1 : Nat) : Int), (apd σ 2 (es ++ [Z9 cats (i, XQ c k t)])).1] (apd σ 2 (es ++ [Z9 cats (i, XQ c k t)])).2) := by
 intro k
 have stop : ∀ t m, i ≤ t → t ≤ 63 → ¬ (t + 1 < 64 ∧ c.testBit (t + 1) = true) → 0 < m →
   Qv 1 (Hl (cpJ PR n) (ciJ PR n) n (Zc z cats) (lv s c) (apd σ 2 es).1) m [.int .i64 t, .agg [.str (nm cats i), .str (if i < t then nm cats t else [])]] (apd σ 2 es).2 =
   some (.next 0 [.int .i64 ((t + 1 : Nat) : Int), (apd σ 2 (es ++ [Z9 cats (i, t)])).1] (apd σ 2 (es ++ [Z9 cats (i, t)])).2) := by
  intro t m hit ht hno hm
  obtain ⟨m, rfl⟩ : ∃ q, m = q + 1 := ⟨m - 1, by omega⟩
  have hw : IntKind.i64.wrap ((t : Int) + 1) = (t : Int) + 1 := Ze (by omega) (by omega)
  have he := e156 (n := n) (by omega) s c hc ((t : Int) + 1)
  have hh : hasC c ((t : Int) + 1) = false := by
   cases h : hasC c ((t : Int) + 1) with
   | false => rfl
   | true => exact absurd ((hasC_succ c t).1 h) hno
  rw [hh] at he
  have ha := Hg (σ := σ) (sz := 2) (own := 1) (es := es) (r := Z9 cats (i, t)) (by omega)
  refine YV ?_ (by decide)
  simp only [Z9] at ha ⊢
  generalize (if i < t then nm cats t else []) = q at ha ⊢
  simp -implicitDefEqProofs [Hl, B158_0, hw, he, ha]
 induction k with
 | zero =>
  intro t m ht hit ht' hm
  exact stop t m hit ht' (by omega) hm
 | succ k ih =>
  intro t m ht hit ht' hm
  by_cases hgo : t + 1 < 64 ∧ c.testBit (t + 1) = true
  ·obtain ⟨m, rfl⟩ : ∃ q, m = q + 1 := ⟨m - 1, by omega⟩
   have hw : IntKind.i64.wrap ((t : Int) + 1) = (t : Int) + 1 := Ze (by omega) (by omega)
   have he := e156 (n := n) (by omega) s c hc ((t : Int) + 1)
   rw [(hasC_succ c t).2 hgo] at he
   have g1 := Yx (hv _ hgo.2)
   rw [Qx (vs' := [.int .i64 ((t + 1 : Nat) : Int), .agg [.str (nm cats i), .str (if i < t + 1 then nm cats (t + 1) else [])]]) (σ' := (apd σ 2 es).2), ih (t + 1) m (by omega) (by omega) (by omega) (by omega)]
   ·simp [XQ, hgo]
   ·have : i < t + 1 := by omega
    rw [if_pos this]
    generalize (if i < t then nm cats t else []) = q
    have hneg : (0 : Int) ≤ (t : Int) + 1 := by omega
    simp -implicitDefEqProofs [Hl, B158_0, hw, he, g1, hneg]
  ·have e : XQ c (k + 1) t = t := by unfold XQ; rw [if_neg hgo]
   rw [e]
   exact stop t m hit ht' hgo (by omega)
theorem l158_1 {n : Nat} (hn : 100 ≤ n) (z : Zs) (cats : List (List UInt8)) (hcl : cats.length ≤ 64) (s : Int) (c : Nat) (hc : c < 18446744073709551616) (hv : ∀ j, c.testBit j = true → j < cats.length) (σ : Sto) :
  ∀ (k i m : Nat) (es : List (List Qa)), 64 ≤ i + k → i ≤ 64 → k < m → es.length ≤ i →
  Qv 0 (Gs (cpJ PR n) (ciJ PR n) n (Zc z cats) (lv s c)) m [.int .i64 i, (apd σ 2 es).1] (apd σ 2 es).2 =
   some (.done (apd σ 2 (es ++ (XO c k i).map (Z9 cats))).1 (apd σ 2 (es ++ (XO c k i).map (Z9 cats))).2) := by
 intro k
 have stop : ∀ k i m (es : List (List Qa)), cats.length ≤ i → 0 < m →
   Qv 0 (Gs (cpJ PR n) (ciJ PR n) n (Zc z cats) (lv s c)) m [.int .i64 i, (apd σ 2 es).1] (apd σ 2 es).2 =
   some (.done (apd σ 2 (es ++ (XO c k i).map (Z9 cats))).1 (apd σ 2 (es ++ (XO c k i).map (Z9 cats))).2) := by
  intro k i m es hi hm
  obtain ⟨m, rfl⟩ : ∃ q, m = q + 1 := ⟨m - 1, by omega⟩
  have hno : XO c k i = [] := E7 fun j hj => by
   cases h : c.testBit j with
   | false => rfl
   | true => have := hv j h; omega
  have hi' : ¬ ((i : Int) < cats.length) := by omega
  refine Qt ?_
  simp -implicitDefEqProofs [Gs, B158_1, hno, hi']
 induction k with
 | zero =>
  intro i m es hi hi' hm hes
  exact stop 0 i m es (by omega) (by omega)
 | succ k ih =>
  intro i m es hi hi' hm hes
  by_cases hlen : i < cats.length
  ·obtain ⟨m, rfl⟩ : ∃ q, m = q + 1 := ⟨m - 1, by omega⟩
   have hlt : i < 64 := by omega
   have hlen' : ((i : Int) < cats.length) := by omega
   have hw : IntKind.i64.wrap ((i : Int) + 1) = (i : Int) + 1 := Ze (by omega) (by omega)
   have he := e156 (n := n) (by omega) s c hc i
   rw [hasC_lt c i hlt] at he
   have hl := l158_0 (n := n) (by omega) z cats s c hc hv σ es (by omega) i 64 i n (by omega) (by omega) (by omega) (by omega)
   rw [if_neg (by omega)] at hl
   have g1 := Yx hlen
   unfold XO
   cases hbit : c.testBit i with
   | true =>
    rw [hbit] at he
    have hle := Hc (c := c) (k := 64) (t := i) (by omega)
    rw [Qx (vs' := [.int .i64 ((XQ c 64 i + 1 : Nat) : Int), (apd σ 2 (es ++ [Z9 cats (i, XQ c 64 i)])).1]) (σ' := (apd σ 2 (es ++ [Z9 cats (i, XQ c 64 i)])).2), ih (XQ c 64 i + 1) m _ (by omega) (by omega) (by omega) (by simp; omega)]
    ·simp [hlt]
    ·rw [← hl]
     simp -implicitDefEqProofs [Gs, B158_1, hlen', he, g1]
   | false =>
    rw [hbit] at he
    rw [Qx (vs' := [.int .i64 ((i + 1 : Nat) : Int), (apd σ 2 es).1]) (σ' := (apd σ 2 es).2), ih (i + 1) m es (by omega) (by omega) (by omega) (by omega)]
    ·simp [hlt]
    ·simp -implicitDefEqProofs [Gs, B158_1, hlen', he, hw]
  ·exact stop (k + 1) i m es (by omega) (by omega)
theorem e158 {n : Nat} (hn : 110 ≤ n) (z : Zs) (cats : List (List UInt8)) (hcl : cats.length ≤ 64) (s : Int) (c : Nat) (hc : c < 18446744073709551616) (hv : ∀ j, c.testBit j = true → j < cats.length) :
  cpJ PR n 158 [lv s c, Zc z cats] = some (frD 2 ((GU c).map (Z9 cats))) := by
 obtain ⟨n, rfl⟩ : ∃ m, n = m + 1 := ⟨n - 1, by omega⟩
 have := l158_1 (n := n) (by omega) z cats hcl s c hc hv Qd 64 0 n [] (by omega) (by omega) (by omega) (by simp)
 rw [u158]
 simp only [Int.natCast_zero, List.nil_append] at this
 have e : apd Qd 2 [] = (.nils, Qd) := rfl
 rw [e] at this
 simp -implicitDefEqProofs [D158, this, GU]
end Go.Proofs.YtdibpeknpmhknaaGreat
namespace Go.Proofs.YtdibpeknpmhknaaGreat
open Go
theorem G9 {s : Int} {c : Nat} (hc : c < 18446744073709551616) {a b : Nat} (h : Wf s c a b = true) : (0 ≤ s ∧ s < a) ∧ ∀ j, c.testBit j = true → j < b := by
 rw [← HY hc, decide_eq_true_eq] at h
 refine ⟨⟨h.2.1, h.2.2⟩, fun j hj => ?_⟩
 by_cases h64 : j < 64
 ·have := h.1 j (Nat.zero_le _) h64 hj; omega
 ·have : c.testBit j = false := Nat.testBit_lt_two_pow (Nat.lt_of_lt_of_le hc (Nat.pow_le_pow_right (n := 2) (by decide) (by omega : 64 ≤ j)))
  rw [this] at hj; cases hj
structure Few (x y : List (List UInt8)) : Prop where
 a : x.length ≤ 100
 b : y.length ≤ 100
 as : ∀ s ∈ x, s.length ≤ 100
 bs : ∀ s ∈ y, s.length ≤ 100
def Yp (sens cats : List (List UInt8)) : Bool := Xj 16 sens && Xj 64 cats
def Xx (s : Int) (c : Nat) (s' : Int) (c' : Nat) (a b : Nat) : Bool := Wf s c a b && Wf s' c' a b && domV s' c' s c
theorem propV_facts {sens cats : List (List UInt8)} (h : Yp sens cats = true) : sens.length ≤ 16 ∧ cats.length ≤ 64 := by
 simp only [Yp, Xj, Bool.and_eq_true, decide_eq_true_eq] at h
 omega
section
variable {n : Nat} (z z' : Zs) {sens cats : List (List UInt8)} (hf : Few sens cats)
include hf
theorem p46 (hn : 20010 ≤ n) : cpJ PR n 146 [Zc z sens, Zc z' cats] = some (.bool (Yp sens cats)) :=
 e146 z z' sens cats (by have := hf.a; omega) (fun s hs => by have := hf.as s hs; omega) (by have := hf.b; omega) (fun s hs => by have := hf.bs s hs; omega) (by omega)
theorem p49 (hn : 20010 ≤ n) : cpJ PR n 157 [Zc z sens, Zc z' cats] = some (.bool (Yp sens cats)) :=
 e157 z z' sens cats (by have := hf.a; omega) (fun s hs => by have := hf.as s hs; omega) (by have := hf.b; omega) (fun s hs => by have := hf.bs s hs; omega) (by omega)
def UN (P V : Bool) : Int := if P then (if V then 0 else 18) else 2
theorem e116 (hn : 20020 ≤ n) (s : Int) (c : Nat) (s' : Int) (c' : Nat) (hr : Rok c c') : cpJ PR n 116 [rg s c s' c', Zc z sens, Zc z' cats] = some (.int .i64 (UN (Yp sens cats) (Xx s c s' c' sens.length cats.length))) := by
 obtain ⟨n, rfl⟩ : ∃ m, n = m + 1 := ⟨n - 1, by omega⟩
 have h1 := p46 (n := n) z z' hf (by omega)
 have h2 := e74 (n := n) (by omega) s c hr.lo s' c' hr.hi sens.length cats.length
 change _ = some (Qa.bool (Xx s c s' c' sens.length cats.length)) at h2
 rw [u116]
 cases hP : Yp sens cats <;> cases hV : Xx s c s' c' sens.length cats.length <;> rw [hP] at h1 <;> rw [hV] at h2 <;> simp -implicitDefEqProofs [D116, h1, h2, UN]
end
abbrev rtD (n1 : List UInt8) (r1 : List (List Qa)) (n2 : List UInt8) (r2 : List (List Qa)) : Qa := .agg [.str n1, slD .nil 2 r1, .str n2, slD .nil 2 r2]
theorem slD_nil : slD .nil 2 [] = .nils := rfl
def HJ (cats : List (List UInt8)) (c : Nat) : List (List Qa) := (GU c).map (Z9 cats)
def srcV (sens cats : List (List UInt8)) (s : Int) (c : Nat) (s' : Int) (c' : Nat) : Qa :=
 if UN (Yp sens cats) (Xx s c s' c' sens.length cats.length) = 0 then
  (if s = s' ∧ c = c' then rtD (nm sens s.toNat) (HJ cats c) [] [] else rtD (nm sens s.toNat) (HJ cats c) (nm sens s'.toNat) (HJ cats c'))
 else rtD [] [] [] []
theorem YC {s : Int} {c : Nat} {s' : Int} {c' : Nat} (hr : Rok c c') {a b : Nat} (h : Xx s c s' c' a b = true) :
  (∃ i i' : Nat, s = i ∧ s' = i' ∧ i < a ∧ i' < a) ∧ (∀ j, c.testBit j = true → j < b) ∧ ∀ j, c'.testBit j = true → j < b := by
 simp only [Xx, Bool.and_eq_true] at h
 obtain ⟨h1, h2⟩ := G9 hr.lo h.1.1
 obtain ⟨h3, h4⟩ := G9 hr.hi h.1.2
 exact ⟨⟨s.toNat, s'.toNat, by omega, by omega, by omega, by omega⟩, h2, h4⟩
theorem lv_ne {s : Int} {c : Nat} {s' : Int} {c' : Nat} (e : ¬ (s = s' ∧ c = c')) : ((s == s') && ((c : Int) == (c' : Int))) = false := by
 cases h : ((s == s') && ((c : Int) == (c' : Int))) with
 | false => rfl
 | true => simp only [Bool.and_eq_true, beq_iff_eq] at h; exact absurd ⟨h.1, by omega⟩ e
theorem e132 {n : Nat} (hn : 20030 ≤ n) (z z' : Zs) {sens cats : List (List UInt8)} (hf : Few sens cats) (s : Int) (c : Nat) (s' : Int) (c' : Nat) (hr : Rok c c') : cpJ PR n 132 [rg s c s' c', Zc z sens, Zc z' cats] =
  some (.tup [srcV sens cats s c s' c', .int .i64 (UN (Yp sens cats) (Xx s c s' c' sens.length cats.length))]) := by
 obtain ⟨n, rfl⟩ : ∃ m, n = m + 1 := ⟨n - 1, by omega⟩
 have h1 := p49 (n := n) z z' hf (by omega)
 have h2 := e102 (n := n) (by omega) s c hr.lo s' c' hr.hi sens.length cats.length
 change _ = some (Qa.bool (Xx s c s' c' sens.length cats.length)) at h2
 rw [u132]
 unfold srcV
 cases hP : Yp sens cats with
 | false =>
  rw [hP] at h1
  simp -implicitDefEqProofs [D132, h1, UN, slD_nil]
 | true =>
  rw [hP] at h1
  cases hV : Xx s c s' c' sens.length cats.length with
  | false =>
   rw [hV] at h2
   simp -implicitDefEqProofs [D132, h1, h2, UN, slD_nil]
  | true =>
   rw [hV] at h2
   obtain ⟨⟨i, i', rfl, rfl, hi, hi'⟩, hb, hb'⟩ := YC hr hV
   have hcl := (propV_facts hP).2
   have w1 := e158 (n := n) (by omega) z' cats hcl i c hr.lo hb
   have w2 := e158 (n := n) (by omega) z' cats hcl i' c' hr.hi hb'
   by_cases e : (i : Int) = i' ∧ c = c'
   ·obtain ⟨e9001, rfl⟩ := e
    obtain rfl : i = i' := by omega
    simp -implicitDefEqProofs [D132, h1, h2, w1, HJ, slD_nil, UN, Yx hi]
   ·have e9002 := lv_ne e
    have e9003 := lv_ne (s := i') (c := c') (s' := i) (c' := c) (λh=> e ⟨h.1.symm, h.2.symm⟩)
    rw [if_pos (by rfl), if_neg e]
    simp -implicitDefEqProofs [D132, h1, h2, w1, w2, HJ, e9003, UN, Yx hi, Yx hi']
end Go.Proofs.YtdibpeknpmhknaaGreat
namespace Go.Proofs.YtdibpeknpmhknaaGreat
open Go
theorem e73 {n : Nat} (hn : 1 ≤ n) (i m : Int) : cpJ PR n 73 [.int .i64 i, .int .i64 m] = some (.bool (ZK i m)) := by
 obtain ⟨n, rfl⟩ : ∃ m, n = m + 1 := ⟨n - 1, by omega⟩
 rw [u73]
 simp -implicitDefEqProofs +contextual [D73, ZK]
theorem e101 {n : Nat} (hn : 1 ≤ n) (i m : Int) : cpJ PR n 101 [.int .i64 i, .int .i64 m] = some (.bool (ZK i m)) := by
 obtain ⟨n, rfl⟩ : ∃ m, n = m + 1 := ⟨n - 1, by omega⟩
 rw [u101]
 simp -implicitDefEqProofs +contextual [D101, ZK]
theorem e75 {n : Nat} (hn : 1 ≤ n) (c : Q3) : cpJ PR n 75 [c.d] = some (.bool (c.role == 0)) := by
 obtain ⟨n, rfl⟩ : ∃ m, n = m + 1 := ⟨n - 1, by omega⟩
 rw [u75]
 simp -implicitDefEqProofs [D75]
def at' {α : Type} (l : List α) (i : Int) : Option α := if 0 ≤ i then l[i.toNat]? else none
theorem VQ {α : Type} {l : List α} {i : Int} (h : ZK i l.length = true) : ∃ (j : Nat) (x : α), i = j ∧ j < l.length ∧ l[j]? = some x ∧ at' l i = some x := by
 simp only [ZK, Bool.and_eq_true, decide_eq_true_eq] at h
 obtain ⟨j, rfl⟩ : ∃ j : Nat, i = j := ⟨i.toNat, by omega⟩
 obtain ⟨x, hx⟩ := Qz (l := l) (i := j) (by omega)
 exact ⟨j, x, rfl, by omega, hx, by simp [at', hx]⟩
theorem Ui {α : Type} {l : List α} {i : Int} (h : ZK i l.length = false) : at' l i = none := by
 unfold at'
 split
 ·rename_i h0
  have : ¬ i < l.length := λh1=> by simp [ZK, h0, h1] at h
  exact List.getElem?_eq_none (by omega)
 ·rfl
def rngV (p : Qw) (lo hi : LvV) : Bool := Xx lo.s lo.c hi.s hi.c p.sens.l.length p.cats.l.length
def insV (u : QU) (c : Q3) : Bool := conV u.lo.s u.lo.c u.hi.s u.hi.c c.lo.s c.lo.c c.hi.s c.hi.c
def QP (p : Qw) (c : Q3) : Int :=
 match at' p.users.l c.user, at' p.roles.l c.role, at' p.types.l c.type with
 | some u, some r, some _ => if rngV p c.lo c.hi then (if c.role = 0 then 0 else if Vi u.roles c.role && (Vi r.types c.type && insV u c) then 0 else 19) else 18
 | _, _, _ => 3
theorem e44 {n : Nat} (hn : 100 ≤ n) (p : Qw) (c : Q3) : cpJ PR n 44 [p.d, c.d] = some (.int .i64 (QP p c)) := by
 obtain ⟨n, rfl⟩ : ∃ m, n = m + 1 := ⟨n - 1, by omega⟩
 have h1 := e73 (n := n) (by omega) c.user p.users.l.length
 have h2 := e73 (n := n) (by omega) c.role p.roles.l.length
 have h3 := e73 (n := n) (by omega) c.type p.types.l.length
 have h4 : cpJ PR n 74 [Yj c.lo c.hi, .int .i64 p.sens.l.length, .int .i64 p.cats.l.length] = some (.bool (rngV p c.lo c.hi)) := e74 (n := n) (by omega) c.lo.s c.lo.c c.lo.lt c.hi.s c.hi.c c.hi.lt p.sens.l.length p.cats.l.length
 have h5 := e75 (n := n) (by omega) c
 rw [u44]
 unfold QP
 cases q1 : ZK c.user p.users.l.length with
 | false =>
  rw [q1] at h1
  rw [Ui q1]
  simp -implicitDefEqProofs [D44, h1]
 | true =>
 obtain ⟨j1, x, e1, -, hx, ha⟩ := VQ q1
 rw [q1] at h1
 cases q2 : ZK c.role p.roles.l.length with
 | false =>
  rw [q2] at h2
  rw [Ui q2, ha]
  simp -implicitDefEqProofs [D44, h1, h2]
 | true =>
 obtain ⟨j2, y, e2, -, hy, hb⟩ := VQ q2
 rw [q2] at h2
 cases q3 : ZK c.type p.types.l.length with
 | false =>
  rw [q3] at h3
  rw [Ui q3, ha, hb]
  simp -implicitDefEqProofs [D44, h1, h2, h3]
 | true =>
 obtain ⟨j3, z, e9003, -, hz, hc⟩ := VQ q3
 rw [q3] at h3
 have h6 : cpJ PR n 76 [x.roles.d, .int .i64 (j2 : Int)] = some (.bool (Vi x.roles c.role)) := by rw [← e2]; exact e76 (n := n) (by omega) x.roles c.role
 have h7 := e76 (n := n) (by omega) y.types c.type
 have h8 : cpJ PR n 77 [Yj x.lo x.hi, Yj c.lo c.hi] = some (.bool (insV x c)) := e77 (n := n) (by omega) x.lo.s x.lo.c x.hi.s x.hi.c ⟨x.lo.lt, x.hi.lt⟩ c.lo.s c.lo.c c.hi.s c.hi.c ⟨c.lo.lt, c.hi.lt⟩
 rw [ha, hb, hc]
 simp only
 rw [e1] at h1
 rw [e2] at h2
 cases q4 : rngV p c.lo c.hi <;> rw [q4] at h4
 ·simp -implicitDefEqProofs [D44, h1, h2, h3, h4, e1, e2]
 ·cases q5 : (c.role == 0) <;> rw [q5] at h5
  ·have q5' : ¬ c.role = 0 := by simpa using q5
   have q6 : ¬ j2 = 0 := λh=> q5' (by rw [e2, h]; rfl)
   cases q7 : Vi x.roles c.role <;> rw [q7] at h6 <;> cases q8 : Vi y.types c.type <;> rw [q8] at h7 <;> cases q9 : insV x c <;> rw [q9] at h8 <;>
    simp -implicitDefEqProofs [D44, h1, h2, h3, h4, h5, h6, h7, h8, e1, e2, hx, hy, q6]
  ·have q5' : c.role = 0 := by simpa using q5
   have q6 : (j2 : Int) = 0 := by rw [← e2, q5']
   rw [if_pos q5']
   simp -implicitDefEqProofs [D44, h1, h2, h3, h4, h5, e1, e2]
theorem e65 {n : Nat} (hn : 100 ≤ n) (p : Qw) (c : Q3) : cpJ PR n 65 [p.d, c.d] = some (.int .i64 (QP p c)) := by
 obtain ⟨n, rfl⟩ : ∃ m, n = m + 1 := ⟨n - 1, by omega⟩
 have h1 := e101 (n := n) (by omega) c.user p.users.l.length
 have h2 := e101 (n := n) (by omega) c.role p.roles.l.length
 have h3 := e101 (n := n) (by omega) c.type p.types.l.length
 have h4 : cpJ PR n 102 [Yj c.lo c.hi, .int .i64 p.sens.l.length, .int .i64 p.cats.l.length] = some (.bool (rngV p c.lo c.hi)) := e102 (n := n) (by omega) c.lo.s c.lo.c c.lo.lt c.hi.s c.hi.c c.hi.lt p.sens.l.length p.cats.l.length
 rw [u65]
 unfold QP
 cases q1 : ZK c.user p.users.l.length with
 | false =>
  rw [q1] at h1
  rw [Ui q1]
  simp -implicitDefEqProofs [D65, h1]
 | true =>
 obtain ⟨j1, x, e1, -, hx, ha⟩ := VQ q1
 rw [q1] at h1
 cases q2 : ZK c.role p.roles.l.length with
 | false =>
  rw [q2] at h2
  rw [Ui q2, ha]
  simp -implicitDefEqProofs [D65, h1, h2]
 | true =>
 obtain ⟨j2, y, e2, -, hy, hb⟩ := VQ q2
 rw [q2] at h2
 cases q3 : ZK c.type p.types.l.length with
 | false =>
  rw [q3] at h3
  rw [Ui q3, ha, hb]
  simp -implicitDefEqProofs [D65, h1, h2, h3]
 | true =>
 obtain ⟨j3, z, e9003, -, hz, hc⟩ := VQ q3
 rw [q3] at h3
 have h6 : cpJ PR n 103 [x.roles.d, .int .i64 (j2 : Int)] = some (.bool (Vi x.roles c.role)) := by rw [← e2]; exact e103 (n := n) (by omega) x.roles c.role
 have h7 := e103 (n := n) (by omega) y.types c.type
 have h8 : cpJ PR n 104 [Yj x.lo x.hi, Yj c.lo c.hi] = some (.bool (insV x c)) := e104 (n := n) (by omega) x.lo.s x.lo.c x.hi.s x.hi.c ⟨x.lo.lt, x.hi.lt⟩ c.lo.s c.lo.c c.hi.s c.hi.c ⟨c.lo.lt, c.hi.lt⟩
 rw [ha, hb, hc]
 simp only
 rw [e1] at h1
 rw [e2] at h2
 cases q4 : rngV p c.lo c.hi <;> rw [q4] at h4
 ·simp -implicitDefEqProofs [D65, h1, h2, h3, h4, e1, e2]
 ·cases q5 : (c.role == 0)
  ·have q5' : ¬ c.role = 0 := by simpa using q5
   have q6 : ¬ j2 = 0 := λh=> q5' (by rw [e2, h]; rfl)
   cases q7 : Vi x.roles c.role <;> rw [q7] at h6 <;> cases q8 : Vi y.types c.type <;> rw [q8] at h7 <;> cases q9 : insV x c <;> rw [q9] at h8 <;>
    simp -implicitDefEqProofs [D65, h1, h2, h3, h4, h6, h7, h8, e1, e2, hx, hy, q6]
  ·have q5' : c.role = 0 := by simpa using q5
   have q6 : (j2 : Int) = 0 := by rw [← e2, q5']
   have q7 : j2 = 0 := by omega
   rw [if_pos q5']
   simp -implicitDefEqProofs [D65, h1, h2, h3, h4, e1, e2, HO q7]
theorem ctx_beq (a b : Q3) : ∃ q, QZ false [.i .i64, .i .i64, .i .i64, .i .i64, .i .u64, .i .i64, .i .u64] [a.d, b.d] = some (.bool q) ∧ (q = true ↔ a.row = b.row) := by
 have : Ans (QZ false [.i .i64, .i .i64, .i .i64, .i .i64, .i .u64, .i .i64, .i .u64] [a.d, b.d]) (isB λq=> q = true ↔ a.row = b.row) := by
  unfold Q3.d Q3.row LvV.row
  simp -implicitDefEqProofs
 exact this.bool
end Go.Proofs.YtdibpeknpmhknaaGreat
namespace Go.Proofs.YtdibpeknpmhknaaGreat
open Go
theorem G4 : ∀ {l pre : List (List UInt8)}, Vg pre l = true → (∀ s ∈ l, Z5 s = true ∧ s ∉ pre) ∧ l.Nodup
 | [], pre, _ => ⟨fun s hs => by simp at hs, List.nodup_nil⟩
 | x :: l, pre, h => by
  simp only [Vg, Bool.and_eq_true, Bool.not_eq_true', decide_eq_false_iff_not] at h
  obtain ⟨⟨h1, h2⟩, h3⟩ := h
  obtain ⟨a1, a2⟩ := G4 h3
  refine ⟨fun s hs => ?_, ?_⟩
  ·rcases List.mem_cons.1 hs with rfl | hs
   ·exact ⟨h1, h2⟩
   ·exact ⟨(a1 s hs).1, λhp=> (a1 s hs).2 (by simp [hp])⟩
  ·rw [List.nodup_cons]
   exact ⟨λhx=> (a1 x hx).2 (by simp), a2⟩
theorem Jh {most : Int} {l : List (List UInt8)} (h : Xj most l = true) : (∀ s ∈ l, s ≠ [] ∧ s.length ≤ 32 ∧ s.all isL = true) ∧ l.Nodup := by
 simp only [Xj, Bool.and_eq_true] at h
 obtain ⟨a1, a2⟩ := G4 h.2
 refine ⟨fun s hs => ?_, a2⟩
 have := (a1 s hs).1
 simp only [Z5, GJ, Bool.and_eq_true, decide_eq_true_eq, Bool.not_eq_true', List.isEmpty_eq_false_iff] at this
 exact ⟨this.2.2, this.1, this.2.1⟩
def Xm (cats : List (List UInt8)) (p : Nat × Nat) : List UInt8 := if p.1 < p.2 then nm cats p.1 ++ 46 :: nm cats p.2 else nm cats p.1
def Y7 (ps : List (List UInt8)) : List UInt8 := ps.flatMap λy=> 44 :: y
def Eh (name : List UInt8) (ps : List (List UInt8)) : List UInt8 :=
 match ps with
 | [] => name
 | p :: r => name ++ 58 :: (p ++ Y7 r)
theorem join_cons (p : List UInt8) : ∀ (r : List (List UInt8)), Lib.join (p :: r) [44] = p ++ Y7 r := by
 intro r
 induction r generalizing p with
 | nil => simp [Lib.join, Y7, List.intercalate]
 | cons q r ih =>
  have := ih q
  unfold Lib.join List.intercalate at this ⊢
  simp only [List.intersperse, List.flatten_cons, this]
  simp [Y7]
theorem Ga {b : Nat} : ∀ {ps : List (List UInt8)}, (∀ p ∈ ps, p.length ≤ b) → (Y7 ps).length ≤ ps.length * (b + 1)
 | [], _ => by simp [Y7]
 | p :: ps, h => by
  have h1 := h p (List.mem_cons_self)
  have h2 := Ga (ps := ps) fun q hq => h q (List.mem_cons_of_mem _ hq)
  have : (Y7 (p :: ps)).length = 1 + p.length + (Y7 ps).length := by simp [Y7]; omega
  rw [this, List.length_cons, Nat.add_mul]
  omega
theorem Ek : ∀ (l : List (List UInt8)), U7 (l.map λs=> [Qa.str s]) = some l
 | [] => rfl
 | s :: l => by simp [U7, Ek l]
theorem u148 (n : Nat) (xs : List Qa) : cpJ PR (n + 1) 148 xs = VX xs := by
 have e : PR 148 = some (.prim VX) := by kernel_rfl
 simp [cpJ, evJ, e, Function.comp_def]
theorem e148 {n : Nat} (hn : 1 ≤ n) (p : List UInt8) (r : List (List UInt8)) (hl : r.length ≤ 1000) (hj : (p ++ Y7 r).length ≤ 1000000) : cpJ PR n 148 [Zc .nil (p :: r), .str [44]] = some (.str (p ++ Y7 r)) := by
 obtain ⟨n, rfl⟩ : ∃ m, n = m + 1 := ⟨n - 1, by omega⟩
 rw [u148]
 have e : Zc .nil (p :: r) = .slice false 0 1 ((p :: r).map λs=> [Qa.str s]) := rfl
 rw [e]
 simp only [VX, Ek, Option.bind_some, join_cons]
 rw [if_pos ⟨by simp; omega, by omega⟩]
theorem apd_strs (σ : Sto) (ps : List (List UInt8)) : (ps = [] ∧ (apd σ 1 (ps.map λs=> [Qa.str s])).1 = .nils) ∨ ∃ p r, ps = p :: r := by
 cases ps with
 | nil => exact .inl ⟨rfl, rfl⟩
 | cons p r => exact .inr ⟨p, r, rfl⟩
theorem l117 {n : Nat} (hn : 10 ≤ n) (z z' : Zs) (sens cats : List (List UInt8)) (s : Nat) (hs : s < sens.length) (c : Nat) (hname : ∀ s ∈ sens, s.length ≤ 100) (hcat : ∀ s ∈ cats, s.length ≤ 100)
  (rs : List (Nat × Nat)) (hrs : ∀ p ∈ rs, p.1 < cats.length ∧ p.2 < cats.length ∧ p.1 ≤ p.2) (hrl : rs.length ≤ 64) (σ : Sto) :
  ∀ (k j m : Nat) (ps : List (List UInt8)), j + k = rs.length → k < m → ps.length ≤ j → (∀ p ∈ ps, p.length ≤ 201) →
  Qv 0 (Gg (cpJ PR n) (ciJ PR n) n (Zc z sens) (Zc z' cats) (lv s c) (slD .nil 2 (rs.map XB)) (.int .i64 rs.length)) m [.int .i64 j, (apd σ 1 (ps.map λs=> [Qa.str s])).1] (apd σ 1 (ps.map λs=> [Qa.str s])).2 =
   some (.done (.str (Eh (nm sens s) (ps ++ (rs.drop j).map (Xm cats)))) (apd σ 1 ((ps ++ (rs.drop j).map (Xm cats)).map λs=> [Qa.str s])).2) := by
 intro k
 induction k with
 | zero =>
  intro j m ps hj hm hps hpl
  obtain ⟨m, rfl⟩ : ∃ q, m = q + 1 := ⟨m - 1, by omega⟩
  have hj' : ¬ ((j : Int) < rs.length) := by omega
  refine Qt ?_
  rw [List.drop_eq_nil_of_le (by omega)]
  simp only [List.map_nil, List.append_nil]
  have hg := Yx hs
  have hnl := hname _ (YH hs)
  rcases apd_strs σ ps with ⟨rfl, -⟩ | ⟨p, r, rfl⟩
  ·have e : apd σ 1 [] = (.nils, σ) := rfl
   simp -implicitDefEqProofs [Gg, Eb, hj', e, hg, Eh]
  ·have hp := hpl p (by simp)
   have ht := Ga (b := 201) (ps := r) fun q hq => hpl q (by simp [hq])
   have hrl' : r.length ≤ 64 := by simp at hps; omega
   have htl : (Y7 r).length ≤ 64 * 202 := Nat.le_trans ht (Nat.mul_le_mul_right _ hrl')
   have hj := e148 (n := n) (by omega) p r (by omega) (by simp; omega)
   have c1 : QW .add (nm sens s) [58] = some (.str (nm sens s ++ [58])) := YO (by simp; omega)
   have c2 : QW .add (nm sens s ++ [58]) (p ++ Y7 r) = some (.str (nm sens s ++ 58 :: (p ++ Y7 r))) := by rw [YO (by simp; omega)]; simp
   have hne : ¬ ((((p :: r).length : Nat) : Int) = 0) := by simp; omega
   simp only [Zc, List.map_cons] at hj ⊢
   have hlen : (([Qa.str p] :: List.map (λs=> [Qa.str s]) r).length : Int) = ((r.length + 1 : Nat) : Int) := by simp
   have hne2 : ¬ ((r.length : Int) + 1 = 0) := by omega
   simp -implicitDefEqProofs [-QW.eq_1, Gg, Eb, hj', hg, Eh, c1, c2, hj, hne2]
 | succ k ih =>
  intro j m ps hj hm hps hpl
  obtain ⟨m, rfl⟩ : ∃ q, m = q + 1 := ⟨m - 1, by omega⟩
  have hj' : ((j : Int) < rs.length) := by omega
  obtain ⟨p, hp⟩ := Qz (by omega : j < rs.length)
  obtain ⟨h1, h2, h3⟩ := hrs p (List.mem_of_getElem? hp)
  have g1 := Yx h1
  have g2 := Yx h2
  have n1 := hcat _ (YH h1)
  have n2 := hcat _ (YH h2)
  have hw : IntKind.i64.wrap ((j : Int) + 1) = (j : Int) + 1 := Ze (by omega) (by omega)
  have ha := Hg (σ := σ) (sz := 1) (own := 1) (es := ps.map λs=> [Qa.str s]) (r := [Qa.str (Xm cats p)]) (by simp; omega)
  have hmap : (ps.map λs=> [Qa.str s]) ++ [[Qa.str (Xm cats p)]] = (ps ++ [Xm cats p]).map λs=> [Qa.str s] := by simp
  rw [hmap] at ha
  have hpart : (Xm cats p).length ≤ 201 := by unfold Xm; split <;> (try simp) <;> omega
  rw [QY hp, List.map_cons]
  rw [Qx (vs' := [.int .i64 ((j + 1 : Nat) : Int), (apd σ 1 ((ps ++ [Xm cats p]).map λs=> [Qa.str s])).1]) (σ' := (apd σ 1 ((ps ++ [Xm cats p]).map λs=> [Qa.str s])).2), ih (j + 1) m _ (by omega) (by omega) (by simp; omega) (by
   intro q hq
   rcases List.mem_append.1 hq with hq | hq
   ·exact hpl q hq
   ·simp only [List.mem_singleton] at hq; subst hq; exact hpart)]
  ·simp
  ·generalize hq : (ps ++ [Xm cats p]).map (λs=> [Qa.str s]) = qs at ha ⊢
   by_cases hlt : p.1 < p.2
   ·have hne : ¬ ((p.1 : Int) = p.2) := by omega
    simp only [Xm, hlt, if_true] at ha
    have c1 : QW .add (nm cats p.1) [46] = some (.str (nm cats p.1 ++ [46])) := YO (by simp; omega)
    have c2 : QW .add (nm cats p.1 ++ [46]) (nm cats p.2) = some (.str (nm cats p.1 ++ 46 :: nm cats p.2)) := by rw [YO (by simp; omega)]; simp
    simp -implicitDefEqProofs [-QW.eq_1, Gg, Eb, hj', hp, XB, g1, g2, hne, ha, hw, c1, c2]
   ·have heq : p.2 = p.1 := by omega
    simp only [Xm, hlt, if_false] at ha
    simp -implicitDefEqProofs [-QW.eq_1, Gg, Eb, hj', hp, XB, g1, heq, ha, hw]
def lvT (sens cats : List (List UInt8)) (s : Nat) (c : Nat) : List UInt8 := Eh (nm sens s) ((GU c).map (Xm cats))
theorem e117 {n : Nat} (hn : 200 ≤ n) (z z' : Zs) (sens cats : List (List UInt8)) (s : Nat) (hs : s < sens.length) (c : Nat) (hc : c < 18446744073709551616) (hv : ∀ j, c.testBit j = true → j < cats.length) (hname : ∀ s ∈ sens, s.length ≤ 100) (hcat : ∀ s ∈ cats, s.length ≤ 100) :
  cpJ PR n 117 [lv s c, Zc z sens, Zc z' cats] = some (.str (lvT sens cats s c)) := by
 obtain ⟨n, rfl⟩ : ∃ m, n = m + 1 := ⟨n - 1, by omega⟩
 have hl := YW (c := c) (k := 64) (i := 0)
 have := l117 (n := n) (by omega) z z' sens cats s hs c hname hcat (GU c) (fun p hp => ⟨hv _ (Xc hp).1, hv _ (Xc hp).2.1, (Xc hp).2.2.1⟩) hl Qd (GU c).length 0 n [] (by omega) (by unfold GU; omega) (by simp) (by simp)
 rw [u117]
 simp only [Int.natCast_zero, List.nil_append, List.drop_zero, List.map_nil] at this
 have e : apd Qd 1 [] = (.nils, Qd) := rfl
 rw [e] at this
 simp -implicitDefEqProofs [D117, e147 (n := n) (by omega) c hc, this, lvT]
def lofT (cats : List (List UInt8)) : Nat → List (Nat × Nat) → List UInt8
 | _, [] => []
 | i, p :: r => (if i = 0 then 58 else 44) :: (Xm cats p ++ lofT cats (i + 1) r)
theorem lofT_tail (cats : List (List UInt8)) : ∀ (r : List (Nat × Nat)) (i : Nat), lofT cats (i + 1) r = Y7 (r.map (Xm cats))
 | [], i => rfl
 | p :: r, i => by
  rw [lofT, lofT_tail cats r (i + 1)]
  simp [Y7]
theorem lofT_txt (cats : List (List UInt8)) (name : List UInt8) (rs : List (Nat × Nat)) : name ++ lofT cats 0 rs = Eh name (rs.map (Xm cats)) := by
 cases rs with
 | nil => simp [lofT, Eh]
 | cons p r => simp [lofT, Eh, lofT_tail]
theorem l133 {n : Nat} (name : List UInt8) (cats : List (List UInt8)) (hcat : ∀ s ∈ cats, s.length ≤ 100 ∧ s ≠ []) (rs : List (Nat × Nat)) (hrs : ∀ p ∈ rs, p.1 < cats.length ∧ p.2 < cats.length) (hrl : rs.length ≤ 64) (σ : Sto) :
  ∀ (k j m : Nat) (t : List UInt8), j + k = rs.length → k < m → t.length ≤ 1000 + 300 * j →
  Qv 0 (VM (cpJ PR n) (ciJ PR n) n (ltD name (rs.map (Z9 cats)))) m [.int .i64 j, .str t] σ = some (.done (.str (t ++ lofT cats j (rs.drop j))) σ) := by
 intro k
 induction k with
 | zero =>
  intro j m t hj hm ht
  obtain ⟨m, rfl⟩ : ∃ q, m = q + 1 := ⟨m - 1, by omega⟩
  have hj' : ¬ ((j : Int) < rs.length) := by omega
  refine Qt ?_
  rw [List.drop_eq_nil_of_le (by omega)]
  simp -implicitDefEqProofs [VM, Gt, hj', lofT]
 | succ k ih =>
  intro j m t hj hm ht
  obtain ⟨m, rfl⟩ : ∃ q, m = q + 1 := ⟨m - 1, by omega⟩
  have hj' : ((j : Int) < rs.length) := by omega
  obtain ⟨p, hp⟩ := Qz (by omega : j < rs.length)
  obtain ⟨h1, h2⟩ := hrs p (List.mem_of_getElem? hp)
  obtain ⟨n1, n1'⟩ := hcat _ (YH h1)
  obtain ⟨n2, n2'⟩ := hcat _ (YH h2)
  have hw : IntKind.i64.wrap ((j : Int) + 1) = (j : Int) + 1 := Ze (by omega) (by omega)
  have key : ∀ q : UInt8, (if j = 0 then (58 : UInt8) else 44) = q → (∀ u : List UInt8, (t ++ [q]).length = u.length → True) →
    VM (cpJ PR n) (ciJ PR n) n (ltD name (rs.map (Z9 cats))) [.int .i64 j, .str t] σ = some (.next 0 [.int .i64 ((j + 1 : Nat) : Int), .str (t ++ q :: Xm cats p)] σ) := by
   intro q hq _
   have c1 : QW .add t [q] = some (.str (t ++ [q])) := YO (by simp; omega)
   have c2 : QW .add (t ++ [q]) (nm cats p.1) = some (.str (t ++ q :: nm cats p.1)) := by rw [YO (by simp; omega)]; simp
   have c3 : QW .add (t ++ q :: nm cats p.1) [46] = some (.str (t ++ q :: (nm cats p.1 ++ [46]))) := by rw [YO (by simp; omega)]; simp
   have c4 : QW .add (t ++ q :: (nm cats p.1 ++ [46])) (nm cats p.2) = some (.str (t ++ q :: (nm cats p.1 ++ 46 :: nm cats p.2))) := by rw [YO (by simp; omega)]; simp
   by_cases h0 : j = 0
   ·subst h0
    simp only [if_true] at hq
    subst hq
    have q1 : (0 : Int) < rs.length := by omega
    have q2 : 0 < rs.length := by omega
    have q3 : IntKind.i64.wrap 1 = 1 := by decide
    have q4 : rs[0] = p := (List.getElem?_eq_some_iff.1 hp).2
    by_cases hlt : p.1 < p.2
    ·simp -implicitDefEqProofs [-QW.eq_1, VM, Gt, Hm, Hk, q1, q2, q3, q4, Z9, hlt, n2', c1, c2, c3, c4, Xm]
    ·simp -implicitDefEqProofs [-QW.eq_1, VM, Gt, Hm, Hk, q1, q2, q3, q4, Z9, hlt, c1, c2, Xm]
   ·have h0' : ¬ ((j : Int) = 0) := by omega
    simp only [h0, if_false] at hq
    subst hq
    by_cases hlt : p.1 < p.2
    ·simp -implicitDefEqProofs [-QW.eq_1, VM, Gt, Hm, Hk, hj', h0, h0', hp, Z9, hlt, n2', c1, c2, c3, c4, hw, Xm]
    ·simp -implicitDefEqProofs [-QW.eq_1, VM, Gt, Hm, Hk, hj', h0, h0', hp, Z9, hlt, c1, c2, hw, Xm]
  have hpart : (Xm cats p).length ≤ 201 := by unfold Xm; split <;> (try simp) <;> omega
  rw [Qx (key _ rfl fun _ _ => trivial), ih (j + 1) m _ (by omega) (by omega) (by simp; omega), QY hp, lofT]
  simp
theorem e133 {n : Nat} (hn : 100 ≤ n) (name : List UInt8) (hname : name.length ≤ 1000) (cats : List (List UInt8)) (hcat : ∀ s ∈ cats, s.length ≤ 100 ∧ s ≠ []) (rs : List (Nat × Nat)) (hrs : ∀ p ∈ rs, p.1 < cats.length ∧ p.2 < cats.length) (hrl : rs.length ≤ 64) :
  cpJ PR n 133 [ltD name (rs.map (Z9 cats))] = some (.str (Eh name (rs.map (Xm cats)))) := by
 obtain ⟨n, rfl⟩ : ∃ m, n = m + 1 := ⟨n - 1, by omega⟩
 have := l133 (n := n) name cats hcat rs hrs hrl Qd rs.length 0 n name (by omega) (by omega) (by omega)
 rw [u133]
 simp only [Int.natCast_zero, List.drop_zero, lofT_txt] at this
 simp -implicitDefEqProofs [D133, this]
theorem txtT_len {name : List UInt8} {ps : List (List UInt8)} (hn : name.length ≤ 100) (hp : ∀ p ∈ ps, p.length ≤ 201) (hl : ps.length ≤ 64) : (Eh name ps).length ≤ 20000 := by
 cases ps with
 | nil => simp only [Eh]; omega
 | cons p r =>
  have h1 := hp p (by simp)
  have h2 := Ga (b := 201) (ps := r) fun q hq => hp q (by simp [hq])
  have h3 : r.length ≤ 64 := by simp at hl; omega
  have h4 : (Y7 r).length ≤ 64 * 202 := Nat.le_trans h2 (Nat.mul_le_mul_right _ h3)
  simp only [Eh, List.length_append, List.length_cons]
  omega
theorem partT_len {cats : List (List UInt8)} (hcat : ∀ s ∈ cats, s.length ≤ 100) {p : Nat × Nat} (h1 : p.1 < cats.length) (h2 : p.2 < cats.length) : (Xm cats p).length ≤ 201 := by
 have a := hcat _ (YH h1)
 have b := hcat _ (YH h2)
 unfold Xm
 split <;> (try simp) <;> omega
theorem VU {sens cats : List (List UInt8)} (hf : Few sens cats) {s : Nat} (hs : s < sens.length) {c : Nat} (hv : ∀ j, c.testBit j = true → j < cats.length) : (lvT sens cats s c).length ≤ 20000 := by
 refine txtT_len (hf.as _ (YH hs)) (fun p hp => ?_) ?_
 ·simp only [List.mem_map] at hp
  obtain ⟨q, hq, rfl⟩ := hp
  have := Xc hq
  exact partT_len hf.bs (hv _ this.1) (hv _ this.2.1)
 ·have := YW (c := c) (k := 64) (i := 0)
  simp only [List.length_map, GU]; omega
def Vf (sens cats : List (List UInt8)) (s : Int) (c : Nat) (s' : Int) (c' : Nat) : List UInt8 :=
 if UN (Yp sens cats) (Xx s c s' c' sens.length cats.length) = 0 then
  (if s = s' ∧ c = c' then lvT sens cats s.toNat c else lvT sens cats s.toNat c ++ 45 :: lvT sens cats s'.toNat c')
 else []
theorem errV_zero {P V : Bool} (h : UN P V = 0) : P = true ∧ V = true := by
 unfold UN at h
 cases P <;> cases V <;> simp_all
theorem e78 {n : Nat} (hn : 20030 ≤ n) (z z' : Zs) {sens cats : List (List UInt8)} (hf : Few sens cats) (s : Int) (c : Nat) (s' : Int) (c' : Nat) (hr : Rok c c') : cpJ PR n 78 [rg s c s' c', Zc z sens, Zc z' cats] =
  some (.tup [.str (Vf sens cats s c s' c'), .int .i64 (UN (Yp sens cats) (Xx s c s' c' sens.length cats.length))]) := by
 obtain ⟨n, rfl⟩ : ∃ m, n = m + 1 := ⟨n - 1, by omega⟩
 have h1 := e116 (n := n) z z' hf (by omega) s c s' c' hr
 rw [u78]
 unfold Vf
 by_cases h0 : UN (Yp sens cats) (Xx s c s' c' sens.length cats.length) = 0
 ·obtain ⟨hP, hV⟩ := errV_zero h0
  rw [h0] at h1 ⊢
  obtain ⟨⟨i, i', rfl, rfl, hi, hi'⟩, hb, hb'⟩ := YC hr hV
  have w1 := e117 (n := n) (by omega) z z' sens cats i hi c hr.lo hb hf.as hf.bs
  have w2 := e117 (n := n) (by omega) z z' sens cats i' hi' c' hr.hi hb' hf.as hf.bs
  have b1 := VU hf hi hb
  have b2 := VU hf hi' hb'
  by_cases e : (i : Int) = i' ∧ c = c'
  ·obtain ⟨e9001, rfl⟩ := e
   obtain rfl : i = i' := by omega
   simp -implicitDefEqProofs [D78, h1, w1]
  ·have e9002 := lv_ne e
   rw [if_neg e]
   have c1 : QW .add (lvT sens cats i c) [45] = some (.str (lvT sens cats i c ++ [45])) := YO (by simp; omega)
   have c2 : QW .add (lvT sens cats i c ++ [45]) (lvT sens cats i' c') = some (.str (lvT sens cats i c ++ 45 :: lvT sens cats i' c')) := by rw [YO (by simp; omega)]; simp
   simp -implicitDefEqProofs [-QW.eq_1, D78, h1, w1, w2, e9002, c1, c2]
 ·rw [if_neg h0]
  simp -implicitDefEqProofs [D78, h1, h0]
theorem e105 {n : Nat} (hn : 20040 ≤ n) (z z' : Zs) {sens cats : List (List UInt8)} (hf : Few sens cats) (s : Int) (c : Nat) (s' : Int) (c' : Nat) (hr : Rok c c') : cpJ PR n 105 [rg s c s' c', Zc z sens, Zc z' cats] =
  some (.tup [.str (Vf sens cats s c s' c'), .int .i64 (UN (Yp sens cats) (Xx s c s' c' sens.length cats.length))]) := by
 obtain ⟨n, rfl⟩ : ∃ m, n = m + 1 := ⟨n - 1, by omega⟩
 have h1 := e132 (n := n) (by omega) z z' hf s c s' c' hr
 rw [u105]
 unfold Vf
 unfold srcV at h1
 by_cases h0 : UN (Yp sens cats) (Xx s c s' c' sens.length cats.length) = 0
 ·obtain ⟨hP, hV⟩ := errV_zero h0
  rw [h0] at h1 ⊢
  obtain ⟨⟨i, i', rfl, rfl, hi, hi'⟩, hb, hb'⟩ := YC hr hV
  have hns : ∀ s ∈ sens, s ≠ [] := fun s hs => by
   simp only [Yp, Bool.and_eq_true] at hP
   exact ((Jh hP.1).1 s hs).1
  have hnc : ∀ s ∈ cats, s.length ≤ 100 ∧ s ≠ [] := fun s hs => by
   simp only [Yp, Bool.and_eq_true] at hP
   exact ⟨hf.bs s hs, ((Jh hP.2).1 s hs).1⟩
  have hl := YW (c := c) (k := 64) (i := 0)
  have hl' := YW (c := c') (k := 64) (i := 0)
  have w1 := e133 (n := n) (by omega) (nm sens i) (by have := hf.as _ (YH hi); omega) cats hnc (GU c) (fun p hp => ⟨hb _ (Xc hp).1, hb _ (Xc hp).2.1⟩) hl
  have w2 := e133 (n := n) (by omega) (nm sens i') (by have := hf.as _ (YH hi'); omega) cats hnc (GU c') (fun p hp => ⟨hb' _ (Xc hp).1, hb' _ (Xc hp).2.1⟩) hl'
  have b1 := VU hf hi hb
  have b2 := VU hf hi' hb'
  have ne := hns _ (YH hi')
  change _ = some (Qa.str (lvT sens cats i c)) at w1
  change _ = some (Qa.str (lvT sens cats i' c')) at w2
  by_cases e : (i : Int) = i' ∧ c = c'
  ·obtain ⟨e9001, rfl⟩ := e
   obtain rfl : i = i' := by omega
   simp only [if_true, and_self, Int.toNat_natCast, HJ] at h1
   simp -implicitDefEqProofs [D105, h1, w1]
  ·rw [if_neg e]
   simp only [if_true, if_neg e, Int.toNat_natCast, HJ] at h1
   have c1 : QW .add (lvT sens cats i c) [45] = some (.str (lvT sens cats i c ++ [45])) := YO (by simp; omega)
   have c2 : QW .add (lvT sens cats i c ++ [45]) (lvT sens cats i' c') = some (.str (lvT sens cats i c ++ 45 :: lvT sens cats i' c')) := by rw [YO (by simp; omega)]; simp
   simp -implicitDefEqProofs [-QW.eq_1, D105, h1, w1, w2, c1, c2, ne]
 ·rw [if_neg h0]
  rw [if_neg h0] at h1
  simp -implicitDefEqProofs [D105, h1, h0]
end Go.Proofs.YtdibpeknpmhknaaGreat
namespace Go.Proofs.YtdibpeknpmhknaaGreat
open Go
theorem VD (s : List UInt8) : ∀ (l : List (List UInt8)) (i : Nat), Za s l i = -1 ∨ ∃ j : Nat, Za s l i = ((i + j : Nat) : Int) ∧ j < l.length ∧ l[j]? = some s
 | [], i => .inl rfl
 | x :: xs, i => by
  unfold Za
  by_cases e : x = s
  ·exact .inr ⟨0, by simp [e], by simp, by simp [e]⟩
  ·simp only [e, if_false]
   rcases VD s xs (i + 1) with h | ⟨j, h1, h2, h3⟩
   ·exact .inl h
   ·exact .inr ⟨j + 1, by rw [h1]; congr 1; omega, by simp; omega, by simpa using h3⟩
theorem UH {a : Nat} (h : a < 64) : 2 ^ a < 18446744073709551616 := Nat.pow_lt_pow_right (by decide) h
theorem shl_one {a : Nat} (h : a < 64) : IntKind.u64.wrap (1 * 2 ^ min a 64) = ((2 ^ a : Nat) : Int) := by
 have e : (2 : Int) ^ a = ((2 ^ a : Nat) : Int) := (Int.natCast_pow 2 a).symm
 have h1 := UH h
 rw [show min a 64 = a by omega, Int.one_mul, e]
 generalize 2 ^ a = x at h1
 exact WG (by omega) (by omega)
end Go.Proofs.YtdibpeknpmhknaaGreat
