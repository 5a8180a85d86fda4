/- What calls answer, by what the trees denote. -/
import Derived.Test.YtdnoonnanhnkaaaDoorPatD
import Derived.Test.YtdnoonnanhnkaaaDoorPatT
import Derived.Test.YtdnoonnanhnkaaaDoorPrimSem
import Derived.KernelRfl
set_option linter.unusedVariables false
set_option maxRecDepth 100000
namespace Go.Proofs.YtdnoonnanhnkaaaDoor
open Go

/-- The program in trees. -/
def table : List (Nat × JFun) :=
  [(49, .prim containsSem), (53, .prim countSem), (60, .prim containsRuneSem), (96, .prim containsAnySem), (64, .prim genSplitSem), (3, .body 2 T3), (4, .body 2 T4), (5, .body 3 T5), (6, .body 3 T6), (7, .body 3 T7), (8, .body 2 T8), (9, .body 2 T9), (10, .body 1 T10), (11, .body 0 T11), (12, .body 1 T12), (13, .body 1 T13), (14, .body 1 T14), (15, .body 1 T15), (16, .body 1 T16), (17, .body 1 T17), (18, .body 1 T18), (19, .body 1 T19), (20, .body 1 T20), (21, .body 1 T21), (22, .body 2 T22), (23, .body 2 T23), (24, .body 2 T24), (25, .body 2 T25), (26, .body 3 T26), (27, .body 3 T27), (28, .body 2 T28), (29, .body 2 T29), (30, .body 0 T30), (31, .body 1 T31), (32, .body 2 T32), (33, .body 2 T33), (34, .body 1 T34), (35, .body 1 T35), (36, .body 1 T36), (37, .body 1 T37), (38, .body 2 T38), (39, .body 2 T39), (40, .body 2 T40), (41, .body 1 T41), (42, .body 1 T42), (43, .body 1 T43), (44, .body 2 T44), (45, .body 1 T45), (46, .body 2 T46), (47, .body 1 T47), (48, .body 1 T48), (50, .body 1 T50), (51, .body 2 T51), (52, .body 2 T52), (54, .body 1 T54), (55, .body 1 T55), (56, .body 1 T56), (57, .body 2 T57), (58, .body 2 T58), (63, .body 2 T63), (67, .body 2 T67), (94, .body 1 T94), (95, .body 1 T95)]
def PR : Nat → Option JFun := progJ table

theorem u3 (n : Nat) (x0 x1 : DVal) : cpJ PR (n + 1) 3 [x0, x1] = finP (D3 (cpJ PR n) (ciJ PR n) n x0 x1 emptySto) := by kernel_rfl
theorem v3 (n : Nat) (x0 x1 : DVal) (σ : Sto) : ciJ PR (n + 1) 3 [x0, x1] σ = finI (D3 (cpJ PR n) (ciJ PR n) n x0 x1 σ) := by kernel_rfl
theorem u4 (n : Nat) (x0 x1 : DVal) : cpJ PR (n + 1) 4 [x0, x1] = finP (D4 (cpJ PR n) (ciJ PR n) n x0 x1 emptySto) := by kernel_rfl
theorem v4 (n : Nat) (x0 x1 : DVal) (σ : Sto) : ciJ PR (n + 1) 4 [x0, x1] σ = finI (D4 (cpJ PR n) (ciJ PR n) n x0 x1 σ) := by kernel_rfl
theorem u5 (n : Nat) (x0 x1 x2 : DVal) : cpJ PR (n + 1) 5 [x0, x1, x2] = finP (D5 (cpJ PR n) (ciJ PR n) n x0 x1 x2 emptySto) := by kernel_rfl
theorem v5 (n : Nat) (x0 x1 x2 : DVal) (σ : Sto) : ciJ PR (n + 1) 5 [x0, x1, x2] σ = finI (D5 (cpJ PR n) (ciJ PR n) n x0 x1 x2 σ) := by kernel_rfl
theorem u6 (n : Nat) (x0 x1 x2 : DVal) : cpJ PR (n + 1) 6 [x0, x1, x2] = finP (D6 (cpJ PR n) (ciJ PR n) n x0 x1 x2 emptySto) := by kernel_rfl
theorem v6 (n : Nat) (x0 x1 x2 : DVal) (σ : Sto) : ciJ PR (n + 1) 6 [x0, x1, x2] σ = finI (D6 (cpJ PR n) (ciJ PR n) n x0 x1 x2 σ) := by kernel_rfl
theorem u7 (n : Nat) (x0 x1 x2 : DVal) : cpJ PR (n + 1) 7 [x0, x1, x2] = finP (D7 (cpJ PR n) (ciJ PR n) n x0 x1 x2 emptySto) := by kernel_rfl
theorem v7 (n : Nat) (x0 x1 x2 : DVal) (σ : Sto) : ciJ PR (n + 1) 7 [x0, x1, x2] σ = finI (D7 (cpJ PR n) (ciJ PR n) n x0 x1 x2 σ) := by kernel_rfl
theorem u8 (n : Nat) (x0 x1 : DVal) : cpJ PR (n + 1) 8 [x0, x1] = finP (D8 (cpJ PR n) (ciJ PR n) n x0 x1 emptySto) := by kernel_rfl
theorem v8 (n : Nat) (x0 x1 : DVal) (σ : Sto) : ciJ PR (n + 1) 8 [x0, x1] σ = finI (D8 (cpJ PR n) (ciJ PR n) n x0 x1 σ) := by kernel_rfl
theorem u9 (n : Nat) (x0 x1 : DVal) : cpJ PR (n + 1) 9 [x0, x1] = finP (D9 (cpJ PR n) (ciJ PR n) n x0 x1 emptySto) := by kernel_rfl
theorem v9 (n : Nat) (x0 x1 : DVal) (σ : Sto) : ciJ PR (n + 1) 9 [x0, x1] σ = finI (D9 (cpJ PR n) (ciJ PR n) n x0 x1 σ) := by kernel_rfl
theorem u10 (n : Nat) (x0 : DVal) : cpJ PR (n + 1) 10 [x0] = finP (D10 (cpJ PR n) (ciJ PR n) n x0 emptySto) := by kernel_rfl
theorem v10 (n : Nat) (x0 : DVal) (σ : Sto) : ciJ PR (n + 1) 10 [x0] σ = finI (D10 (cpJ PR n) (ciJ PR n) n x0 σ) := by kernel_rfl
theorem u11 (n : Nat) : cpJ PR (n + 1) 11 [] = finP (D11 (cpJ PR n) (ciJ PR n) n  emptySto) := by kernel_rfl
theorem v11 (n : Nat) (σ : Sto) : ciJ PR (n + 1) 11 [] σ = finI (D11 (cpJ PR n) (ciJ PR n) n  σ) := by kernel_rfl
theorem u12 (n : Nat) (x0 : DVal) : cpJ PR (n + 1) 12 [x0] = finP (D12 (cpJ PR n) (ciJ PR n) n x0 emptySto) := by kernel_rfl
theorem v12 (n : Nat) (x0 : DVal) (σ : Sto) : ciJ PR (n + 1) 12 [x0] σ = finI (D12 (cpJ PR n) (ciJ PR n) n x0 σ) := by kernel_rfl
theorem u13 (n : Nat) (x0 : DVal) : cpJ PR (n + 1) 13 [x0] = finP (D13 (cpJ PR n) (ciJ PR n) n x0 emptySto) := by kernel_rfl
theorem v13 (n : Nat) (x0 : DVal) (σ : Sto) : ciJ PR (n + 1) 13 [x0] σ = finI (D13 (cpJ PR n) (ciJ PR n) n x0 σ) := by kernel_rfl
theorem u14 (n : Nat) (x0 : DVal) : cpJ PR (n + 1) 14 [x0] = finP (D14 (cpJ PR n) (ciJ PR n) n x0 emptySto) := by kernel_rfl
theorem v14 (n : Nat) (x0 : DVal) (σ : Sto) : ciJ PR (n + 1) 14 [x0] σ = finI (D14 (cpJ PR n) (ciJ PR n) n x0 σ) := by kernel_rfl
theorem u15 (n : Nat) (x0 : DVal) : cpJ PR (n + 1) 15 [x0] = finP (D15 (cpJ PR n) (ciJ PR n) n x0 emptySto) := by kernel_rfl
theorem v15 (n : Nat) (x0 : DVal) (σ : Sto) : ciJ PR (n + 1) 15 [x0] σ = finI (D15 (cpJ PR n) (ciJ PR n) n x0 σ) := by kernel_rfl
theorem u16 (n : Nat) (x0 : DVal) : cpJ PR (n + 1) 16 [x0] = finP (D16 (cpJ PR n) (ciJ PR n) n x0 emptySto) := by kernel_rfl
theorem v16 (n : Nat) (x0 : DVal) (σ : Sto) : ciJ PR (n + 1) 16 [x0] σ = finI (D16 (cpJ PR n) (ciJ PR n) n x0 σ) := by kernel_rfl
theorem u17 (n : Nat) (x0 : DVal) : cpJ PR (n + 1) 17 [x0] = finP (D17 (cpJ PR n) (ciJ PR n) n x0 emptySto) := by kernel_rfl
theorem v17 (n : Nat) (x0 : DVal) (σ : Sto) : ciJ PR (n + 1) 17 [x0] σ = finI (D17 (cpJ PR n) (ciJ PR n) n x0 σ) := by kernel_rfl
theorem u18 (n : Nat) (x0 : DVal) : cpJ PR (n + 1) 18 [x0] = finP (D18 (cpJ PR n) (ciJ PR n) n x0 emptySto) := by kernel_rfl
theorem v18 (n : Nat) (x0 : DVal) (σ : Sto) : ciJ PR (n + 1) 18 [x0] σ = finI (D18 (cpJ PR n) (ciJ PR n) n x0 σ) := by kernel_rfl
theorem u19 (n : Nat) (x0 : DVal) : cpJ PR (n + 1) 19 [x0] = finP (D19 (cpJ PR n) (ciJ PR n) n x0 emptySto) := by kernel_rfl
theorem v19 (n : Nat) (x0 : DVal) (σ : Sto) : ciJ PR (n + 1) 19 [x0] σ = finI (D19 (cpJ PR n) (ciJ PR n) n x0 σ) := by kernel_rfl
theorem u20 (n : Nat) (x0 : DVal) : cpJ PR (n + 1) 20 [x0] = finP (D20 (cpJ PR n) (ciJ PR n) n x0 emptySto) := by kernel_rfl
theorem v20 (n : Nat) (x0 : DVal) (σ : Sto) : ciJ PR (n + 1) 20 [x0] σ = finI (D20 (cpJ PR n) (ciJ PR n) n x0 σ) := by kernel_rfl
theorem u21 (n : Nat) (x0 : DVal) : cpJ PR (n + 1) 21 [x0] = finP (D21 (cpJ PR n) (ciJ PR n) n x0 emptySto) := by kernel_rfl
theorem v21 (n : Nat) (x0 : DVal) (σ : Sto) : ciJ PR (n + 1) 21 [x0] σ = finI (D21 (cpJ PR n) (ciJ PR n) n x0 σ) := by kernel_rfl
theorem u22 (n : Nat) (x0 x1 : DVal) : cpJ PR (n + 1) 22 [x0, x1] = finP (D22 (cpJ PR n) (ciJ PR n) n x0 x1 emptySto) := by kernel_rfl
theorem v22 (n : Nat) (x0 x1 : DVal) (σ : Sto) : ciJ PR (n + 1) 22 [x0, x1] σ = finI (D22 (cpJ PR n) (ciJ PR n) n x0 x1 σ) := by kernel_rfl
theorem u23 (n : Nat) (x0 x1 : DVal) : cpJ PR (n + 1) 23 [x0, x1] = finP (D23 (cpJ PR n) (ciJ PR n) n x0 x1 emptySto) := by kernel_rfl
theorem v23 (n : Nat) (x0 x1 : DVal) (σ : Sto) : ciJ PR (n + 1) 23 [x0, x1] σ = finI (D23 (cpJ PR n) (ciJ PR n) n x0 x1 σ) := by kernel_rfl
theorem u24 (n : Nat) (x0 x1 : DVal) : cpJ PR (n + 1) 24 [x0, x1] = finP (D24 (cpJ PR n) (ciJ PR n) n x0 x1 emptySto) := by kernel_rfl
theorem v24 (n : Nat) (x0 x1 : DVal) (σ : Sto) : ciJ PR (n + 1) 24 [x0, x1] σ = finI (D24 (cpJ PR n) (ciJ PR n) n x0 x1 σ) := by kernel_rfl
theorem u25 (n : Nat) (x0 x1 : DVal) : cpJ PR (n + 1) 25 [x0, x1] = finP (D25 (cpJ PR n) (ciJ PR n) n x0 x1 emptySto) := by kernel_rfl
theorem v25 (n : Nat) (x0 x1 : DVal) (σ : Sto) : ciJ PR (n + 1) 25 [x0, x1] σ = finI (D25 (cpJ PR n) (ciJ PR n) n x0 x1 σ) := by kernel_rfl
theorem u26 (n : Nat) (x0 x1 x2 : DVal) : cpJ PR (n + 1) 26 [x0, x1, x2] = finP (D26 (cpJ PR n) (ciJ PR n) n x0 x1 x2 emptySto) := by kernel_rfl
theorem v26 (n : Nat) (x0 x1 x2 : DVal) (σ : Sto) : ciJ PR (n + 1) 26 [x0, x1, x2] σ = finI (D26 (cpJ PR n) (ciJ PR n) n x0 x1 x2 σ) := by kernel_rfl
theorem u27 (n : Nat) (x0 x1 x2 : DVal) : cpJ PR (n + 1) 27 [x0, x1, x2] = finP (D27 (cpJ PR n) (ciJ PR n) n x0 x1 x2 emptySto) := by kernel_rfl
theorem v27 (n : Nat) (x0 x1 x2 : DVal) (σ : Sto) : ciJ PR (n + 1) 27 [x0, x1, x2] σ = finI (D27 (cpJ PR n) (ciJ PR n) n x0 x1 x2 σ) := by kernel_rfl
theorem u28 (n : Nat) (x0 x1 : DVal) : cpJ PR (n + 1) 28 [x0, x1] = finP (D28 (cpJ PR n) (ciJ PR n) n x0 x1 emptySto) := by kernel_rfl
theorem v28 (n : Nat) (x0 x1 : DVal) (σ : Sto) : ciJ PR (n + 1) 28 [x0, x1] σ = finI (D28 (cpJ PR n) (ciJ PR n) n x0 x1 σ) := by kernel_rfl
theorem u29 (n : Nat) (x0 x1 : DVal) : cpJ PR (n + 1) 29 [x0, x1] = finP (D29 (cpJ PR n) (ciJ PR n) n x0 x1 emptySto) := by kernel_rfl
theorem v29 (n : Nat) (x0 x1 : DVal) (σ : Sto) : ciJ PR (n + 1) 29 [x0, x1] σ = finI (D29 (cpJ PR n) (ciJ PR n) n x0 x1 σ) := by kernel_rfl
theorem u30 (n : Nat) : cpJ PR (n + 1) 30 [] = finP (D30 (cpJ PR n) (ciJ PR n) n  emptySto) := by kernel_rfl
theorem v30 (n : Nat) (σ : Sto) : ciJ PR (n + 1) 30 [] σ = finI (D30 (cpJ PR n) (ciJ PR n) n  σ) := by kernel_rfl
theorem u31 (n : Nat) (x0 : DVal) : cpJ PR (n + 1) 31 [x0] = finP (D31 (cpJ PR n) (ciJ PR n) n x0 emptySto) := by kernel_rfl
theorem v31 (n : Nat) (x0 : DVal) (σ : Sto) : ciJ PR (n + 1) 31 [x0] σ = finI (D31 (cpJ PR n) (ciJ PR n) n x0 σ) := by kernel_rfl
theorem u32 (n : Nat) (x0 x1 : DVal) : cpJ PR (n + 1) 32 [x0, x1] = finP (D32 (cpJ PR n) (ciJ PR n) n x0 x1 emptySto) := by kernel_rfl
theorem v32 (n : Nat) (x0 x1 : DVal) (σ : Sto) : ciJ PR (n + 1) 32 [x0, x1] σ = finI (D32 (cpJ PR n) (ciJ PR n) n x0 x1 σ) := by kernel_rfl
theorem u33 (n : Nat) (x0 x1 : DVal) : cpJ PR (n + 1) 33 [x0, x1] = finP (D33 (cpJ PR n) (ciJ PR n) n x0 x1 emptySto) := by kernel_rfl
theorem v33 (n : Nat) (x0 x1 : DVal) (σ : Sto) : ciJ PR (n + 1) 33 [x0, x1] σ = finI (D33 (cpJ PR n) (ciJ PR n) n x0 x1 σ) := by kernel_rfl
theorem u34 (n : Nat) (x0 : DVal) : cpJ PR (n + 1) 34 [x0] = finP (D34 (cpJ PR n) (ciJ PR n) n x0 emptySto) := by kernel_rfl
theorem v34 (n : Nat) (x0 : DVal) (σ : Sto) : ciJ PR (n + 1) 34 [x0] σ = finI (D34 (cpJ PR n) (ciJ PR n) n x0 σ) := by kernel_rfl
theorem u35 (n : Nat) (x0 : DVal) : cpJ PR (n + 1) 35 [x0] = finP (D35 (cpJ PR n) (ciJ PR n) n x0 emptySto) := by kernel_rfl
theorem v35 (n : Nat) (x0 : DVal) (σ : Sto) : ciJ PR (n + 1) 35 [x0] σ = finI (D35 (cpJ PR n) (ciJ PR n) n x0 σ) := by kernel_rfl
theorem u36 (n : Nat) (x0 : DVal) : cpJ PR (n + 1) 36 [x0] = finP (D36 (cpJ PR n) (ciJ PR n) n x0 emptySto) := by kernel_rfl
theorem v36 (n : Nat) (x0 : DVal) (σ : Sto) : ciJ PR (n + 1) 36 [x0] σ = finI (D36 (cpJ PR n) (ciJ PR n) n x0 σ) := by kernel_rfl
theorem u37 (n : Nat) (x0 : DVal) : cpJ PR (n + 1) 37 [x0] = finP (D37 (cpJ PR n) (ciJ PR n) n x0 emptySto) := by kernel_rfl
theorem v37 (n : Nat) (x0 : DVal) (σ : Sto) : ciJ PR (n + 1) 37 [x0] σ = finI (D37 (cpJ PR n) (ciJ PR n) n x0 σ) := by kernel_rfl
theorem u38 (n : Nat) (x0 x1 : DVal) : cpJ PR (n + 1) 38 [x0, x1] = finP (D38 (cpJ PR n) (ciJ PR n) n x0 x1 emptySto) := by kernel_rfl
theorem v38 (n : Nat) (x0 x1 : DVal) (σ : Sto) : ciJ PR (n + 1) 38 [x0, x1] σ = finI (D38 (cpJ PR n) (ciJ PR n) n x0 x1 σ) := by kernel_rfl
theorem u39 (n : Nat) (x0 x1 : DVal) : cpJ PR (n + 1) 39 [x0, x1] = finP (D39 (cpJ PR n) (ciJ PR n) n x0 x1 emptySto) := by kernel_rfl
theorem v39 (n : Nat) (x0 x1 : DVal) (σ : Sto) : ciJ PR (n + 1) 39 [x0, x1] σ = finI (D39 (cpJ PR n) (ciJ PR n) n x0 x1 σ) := by kernel_rfl
theorem u40 (n : Nat) (x0 x1 : DVal) : cpJ PR (n + 1) 40 [x0, x1] = finP (D40 (cpJ PR n) (ciJ PR n) n x0 x1 emptySto) := by kernel_rfl
theorem v40 (n : Nat) (x0 x1 : DVal) (σ : Sto) : ciJ PR (n + 1) 40 [x0, x1] σ = finI (D40 (cpJ PR n) (ciJ PR n) n x0 x1 σ) := by kernel_rfl
theorem u41 (n : Nat) (x0 : DVal) : cpJ PR (n + 1) 41 [x0] = finP (D41 (cpJ PR n) (ciJ PR n) n x0 emptySto) := by kernel_rfl
theorem v41 (n : Nat) (x0 : DVal) (σ : Sto) : ciJ PR (n + 1) 41 [x0] σ = finI (D41 (cpJ PR n) (ciJ PR n) n x0 σ) := by kernel_rfl
theorem u42 (n : Nat) (x0 : DVal) : cpJ PR (n + 1) 42 [x0] = finP (D42 (cpJ PR n) (ciJ PR n) n x0 emptySto) := by kernel_rfl
theorem v42 (n : Nat) (x0 : DVal) (σ : Sto) : ciJ PR (n + 1) 42 [x0] σ = finI (D42 (cpJ PR n) (ciJ PR n) n x0 σ) := by kernel_rfl
theorem u43 (n : Nat) (x0 : DVal) : cpJ PR (n + 1) 43 [x0] = finP (D43 (cpJ PR n) (ciJ PR n) n x0 emptySto) := by kernel_rfl
theorem v43 (n : Nat) (x0 : DVal) (σ : Sto) : ciJ PR (n + 1) 43 [x0] σ = finI (D43 (cpJ PR n) (ciJ PR n) n x0 σ) := by kernel_rfl
theorem u44 (n : Nat) (x0 x1 : DVal) : cpJ PR (n + 1) 44 [x0, x1] = finP (D44 (cpJ PR n) (ciJ PR n) n x0 x1 emptySto) := by kernel_rfl
theorem v44 (n : Nat) (x0 x1 : DVal) (σ : Sto) : ciJ PR (n + 1) 44 [x0, x1] σ = finI (D44 (cpJ PR n) (ciJ PR n) n x0 x1 σ) := by kernel_rfl
theorem u45 (n : Nat) (x0 : DVal) : cpJ PR (n + 1) 45 [x0] = finP (D45 (cpJ PR n) (ciJ PR n) n x0 emptySto) := by kernel_rfl
theorem v45 (n : Nat) (x0 : DVal) (σ : Sto) : ciJ PR (n + 1) 45 [x0] σ = finI (D45 (cpJ PR n) (ciJ PR n) n x0 σ) := by kernel_rfl
theorem u46 (n : Nat) (x0 x1 : DVal) : cpJ PR (n + 1) 46 [x0, x1] = finP (D46 (cpJ PR n) (ciJ PR n) n x0 x1 emptySto) := by kernel_rfl
theorem v46 (n : Nat) (x0 x1 : DVal) (σ : Sto) : ciJ PR (n + 1) 46 [x0, x1] σ = finI (D46 (cpJ PR n) (ciJ PR n) n x0 x1 σ) := by kernel_rfl
theorem u47 (n : Nat) (x0 : DVal) : cpJ PR (n + 1) 47 [x0] = finP (D47 (cpJ PR n) (ciJ PR n) n x0 emptySto) := by kernel_rfl
theorem v47 (n : Nat) (x0 : DVal) (σ : Sto) : ciJ PR (n + 1) 47 [x0] σ = finI (D47 (cpJ PR n) (ciJ PR n) n x0 σ) := by kernel_rfl
theorem u48 (n : Nat) (x0 : DVal) : cpJ PR (n + 1) 48 [x0] = finP (D48 (cpJ PR n) (ciJ PR n) n x0 emptySto) := by kernel_rfl
theorem v48 (n : Nat) (x0 : DVal) (σ : Sto) : ciJ PR (n + 1) 48 [x0] σ = finI (D48 (cpJ PR n) (ciJ PR n) n x0 σ) := by kernel_rfl
theorem u50 (n : Nat) (x0 : DVal) : cpJ PR (n + 1) 50 [x0] = finP (D50 (cpJ PR n) (ciJ PR n) n x0 emptySto) := by kernel_rfl
theorem v50 (n : Nat) (x0 : DVal) (σ : Sto) : ciJ PR (n + 1) 50 [x0] σ = finI (D50 (cpJ PR n) (ciJ PR n) n x0 σ) := by kernel_rfl
theorem u51 (n : Nat) (x0 x1 : DVal) : cpJ PR (n + 1) 51 [x0, x1] = finP (D51 (cpJ PR n) (ciJ PR n) n x0 x1 emptySto) := by kernel_rfl
theorem v51 (n : Nat) (x0 x1 : DVal) (σ : Sto) : ciJ PR (n + 1) 51 [x0, x1] σ = finI (D51 (cpJ PR n) (ciJ PR n) n x0 x1 σ) := by kernel_rfl
theorem u52 (n : Nat) (x0 x1 : DVal) : cpJ PR (n + 1) 52 [x0, x1] = finP (D52 (cpJ PR n) (ciJ PR n) n x0 x1 emptySto) := by kernel_rfl
theorem v52 (n : Nat) (x0 x1 : DVal) (σ : Sto) : ciJ PR (n + 1) 52 [x0, x1] σ = finI (D52 (cpJ PR n) (ciJ PR n) n x0 x1 σ) := by kernel_rfl
theorem u54 (n : Nat) (x0 : DVal) : cpJ PR (n + 1) 54 [x0] = finP (D54 (cpJ PR n) (ciJ PR n) n x0 emptySto) := by kernel_rfl
theorem v54 (n : Nat) (x0 : DVal) (σ : Sto) : ciJ PR (n + 1) 54 [x0] σ = finI (D54 (cpJ PR n) (ciJ PR n) n x0 σ) := by kernel_rfl
theorem u55 (n : Nat) (x0 : DVal) : cpJ PR (n + 1) 55 [x0] = finP (D55 (cpJ PR n) (ciJ PR n) n x0 emptySto) := by kernel_rfl
theorem v55 (n : Nat) (x0 : DVal) (σ : Sto) : ciJ PR (n + 1) 55 [x0] σ = finI (D55 (cpJ PR n) (ciJ PR n) n x0 σ) := by kernel_rfl
theorem u56 (n : Nat) (x0 : DVal) : cpJ PR (n + 1) 56 [x0] = finP (D56 (cpJ PR n) (ciJ PR n) n x0 emptySto) := by kernel_rfl
theorem v56 (n : Nat) (x0 : DVal) (σ : Sto) : ciJ PR (n + 1) 56 [x0] σ = finI (D56 (cpJ PR n) (ciJ PR n) n x0 σ) := by kernel_rfl
theorem u57 (n : Nat) (x0 x1 : DVal) : cpJ PR (n + 1) 57 [x0, x1] = finP (D57 (cpJ PR n) (ciJ PR n) n x0 x1 emptySto) := by kernel_rfl
theorem v57 (n : Nat) (x0 x1 : DVal) (σ : Sto) : ciJ PR (n + 1) 57 [x0, x1] σ = finI (D57 (cpJ PR n) (ciJ PR n) n x0 x1 σ) := by kernel_rfl
theorem u58 (n : Nat) (x0 x1 : DVal) : cpJ PR (n + 1) 58 [x0, x1] = finP (D58 (cpJ PR n) (ciJ PR n) n x0 x1 emptySto) := by kernel_rfl
theorem v58 (n : Nat) (x0 x1 : DVal) (σ : Sto) : ciJ PR (n + 1) 58 [x0, x1] σ = finI (D58 (cpJ PR n) (ciJ PR n) n x0 x1 σ) := by kernel_rfl
theorem u63 (n : Nat) (x0 x1 : DVal) : cpJ PR (n + 1) 63 [x0, x1] = finP (D63 (cpJ PR n) (ciJ PR n) n x0 x1 emptySto) := by kernel_rfl
theorem v63 (n : Nat) (x0 x1 : DVal) (σ : Sto) : ciJ PR (n + 1) 63 [x0, x1] σ = finI (D63 (cpJ PR n) (ciJ PR n) n x0 x1 σ) := by kernel_rfl
theorem u67 (n : Nat) (x0 x1 : DVal) : cpJ PR (n + 1) 67 [x0, x1] = finP (D67 (cpJ PR n) (ciJ PR n) n x0 x1 emptySto) := by kernel_rfl
theorem v67 (n : Nat) (x0 x1 : DVal) (σ : Sto) : ciJ PR (n + 1) 67 [x0, x1] σ = finI (D67 (cpJ PR n) (ciJ PR n) n x0 x1 σ) := by kernel_rfl
theorem u94 (n : Nat) (x0 : DVal) : cpJ PR (n + 1) 94 [x0] = finP (D94 (cpJ PR n) (ciJ PR n) n x0 emptySto) := by kernel_rfl
theorem v94 (n : Nat) (x0 : DVal) (σ : Sto) : ciJ PR (n + 1) 94 [x0] σ = finI (D94 (cpJ PR n) (ciJ PR n) n x0 σ) := by kernel_rfl
theorem u95 (n : Nat) (x0 : DVal) : cpJ PR (n + 1) 95 [x0] = finP (D95 (cpJ PR n) (ciJ PR n) n x0 emptySto) := by kernel_rfl
theorem v95 (n : Nat) (x0 : DVal) (σ : Sto) : ciJ PR (n + 1) 95 [x0] σ = finI (D95 (cpJ PR n) (ciJ PR n) n x0 σ) := by kernel_rfl

end Go.Proofs.YtdnoonnanhnkaaaDoor
