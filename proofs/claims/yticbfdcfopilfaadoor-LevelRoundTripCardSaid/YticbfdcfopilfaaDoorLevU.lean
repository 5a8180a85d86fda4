/- What calls answer, by what the trees denote. -/
import Derived.Test.YticbfdcfopilfaaDoorLevD
import Derived.Test.YticbfdcfopilfaaDoorLevT
import Derived.Test.YticbfdcfopilfaaDoorPrimSem
import Derived.KernelRfl
set_option linter.unusedVariables false
set_option maxRecDepth 100000
namespace Go.Proofs.YticbfdcfopilfaaDoor
open Go

/-- The program in trees. -/
def table : List (Nat × JFun) :=
  [(47, .prim cutSem), (57, .prim joinSem), (71, .prim genSplitSem), (3, .body 3 T3), (4, .body 2 T4), (5, .body 3 T5), (6, .body 2 T6), (7, .body 2 T7), (8, .body 2 T8), (9, .body 3 T9), (10, .body 2 T10), (11, .body 2 T11), (12, .body 3 T12), (13, .body 3 T13), (14, .body 3 T14), (15, .body 3 T15), (16, .body 0 T16), (17, .body 2 T17), (18, .body 2 T18), (19, .body 2 T19), (20, .body 2 T20), (21, .body 2 T21), (22, .body 2 T22), (23, .body 1 T23), (24, .body 3 T24), (25, .body 3 T25), (26, .body 3 T26), (27, .body 3 T27), (28, .body 1 T28), (29, .body 3 T29), (30, .body 3 T30), (31, .body 3 T31), (32, .body 3 T32), (33, .body 2 T33), (34, .body 2 T34), (35, .body 2 T35), (36, .body 2 T36), (37, .body 2 T37), (38, .body 2 T38), (39, .body 3 T39), (40, .body 3 T40), (41, .body 2 T41), (42, .body 2 T42), (43, .body 3 T43), (44, .body 3 T44), (45, .body 1 T45), (46, .body 2 T46), (48, .body 1 T48), (49, .body 2 T49), (50, .body 1 T50), (51, .body 2 T51), (52, .body 2 T52), (53, .body 3 T53), (54, .body 2 T54), (55, .body 2 T55), (56, .body 1 T56), (58, .body 2 T58), (60, .body 1 T60), (61, .body 2 T61), (62, .body 1 T62), (63, .body 2 T63), (64, .body 2 T64), (68, .body 2 T68), (70, .body 1 T70), (72, .body 1 T72), (73, .body 2 T73)]
def PR : Nat → Option JFun := progJ table

theorem u3 (n : Nat) (x0 x1 x2 : DVal) : cpJ PR (n + 1) 3 [x0, x1, x2] = finP (D3 (cpJ PR n) (ciJ PR n) n x0 x1 x2 emptySto) := by kernel_rfl
theorem v3 (n : Nat) (x0 x1 x2 : DVal) (σ : Sto) : ciJ PR (n + 1) 3 [x0, x1, x2] σ = finI (D3 (cpJ PR n) (ciJ PR n) n x0 x1 x2 σ) := by kernel_rfl
theorem u4 (n : Nat) (x0 x1 : DVal) : cpJ PR (n + 1) 4 [x0, x1] = finP (D4 (cpJ PR n) (ciJ PR n) n x0 x1 emptySto) := by kernel_rfl
theorem v4 (n : Nat) (x0 x1 : DVal) (σ : Sto) : ciJ PR (n + 1) 4 [x0, x1] σ = finI (D4 (cpJ PR n) (ciJ PR n) n x0 x1 σ) := by kernel_rfl
theorem u5 (n : Nat) (x0 x1 x2 : DVal) : cpJ PR (n + 1) 5 [x0, x1, x2] = finP (D5 (cpJ PR n) (ciJ PR n) n x0 x1 x2 emptySto) := by kernel_rfl
theorem v5 (n : Nat) (x0 x1 x2 : DVal) (σ : Sto) : ciJ PR (n + 1) 5 [x0, x1, x2] σ = finI (D5 (cpJ PR n) (ciJ PR n) n x0 x1 x2 σ) := by kernel_rfl
theorem u6 (n : Nat) (x0 x1 : DVal) : cpJ PR (n + 1) 6 [x0, x1] = finP (D6 (cpJ PR n) (ciJ PR n) n x0 x1 emptySto) := by kernel_rfl
theorem v6 (n : Nat) (x0 x1 : DVal) (σ : Sto) : ciJ PR (n + 1) 6 [x0, x1] σ = finI (D6 (cpJ PR n) (ciJ PR n) n x0 x1 σ) := by kernel_rfl
theorem u7 (n : Nat) (x0 x1 : DVal) : cpJ PR (n + 1) 7 [x0, x1] = finP (D7 (cpJ PR n) (ciJ PR n) n x0 x1 emptySto) := by kernel_rfl
theorem v7 (n : Nat) (x0 x1 : DVal) (σ : Sto) : ciJ PR (n + 1) 7 [x0, x1] σ = finI (D7 (cpJ PR n) (ciJ PR n) n x0 x1 σ) := by kernel_rfl
theorem u8 (n : Nat) (x0 x1 : DVal) : cpJ PR (n + 1) 8 [x0, x1] = finP (D8 (cpJ PR n) (ciJ PR n) n x0 x1 emptySto) := by kernel_rfl
theorem v8 (n : Nat) (x0 x1 : DVal) (σ : Sto) : ciJ PR (n + 1) 8 [x0, x1] σ = finI (D8 (cpJ PR n) (ciJ PR n) n x0 x1 σ) := by kernel_rfl
theorem u9 (n : Nat) (x0 x1 x2 : DVal) : cpJ PR (n + 1) 9 [x0, x1, x2] = finP (D9 (cpJ PR n) (ciJ PR n) n x0 x1 x2 emptySto) := by kernel_rfl
theorem v9 (n : Nat) (x0 x1 x2 : DVal) (σ : Sto) : ciJ PR (n + 1) 9 [x0, x1, x2] σ = finI (D9 (cpJ PR n) (ciJ PR n) n x0 x1 x2 σ) := by kernel_rfl
theorem u10 (n : Nat) (x0 x1 : DVal) : cpJ PR (n + 1) 10 [x0, x1] = finP (D10 (cpJ PR n) (ciJ PR n) n x0 x1 emptySto) := by kernel_rfl
theorem v10 (n : Nat) (x0 x1 : DVal) (σ : Sto) : ciJ PR (n + 1) 10 [x0, x1] σ = finI (D10 (cpJ PR n) (ciJ PR n) n x0 x1 σ) := by kernel_rfl
theorem u11 (n : Nat) (x0 x1 : DVal) : cpJ PR (n + 1) 11 [x0, x1] = finP (D11 (cpJ PR n) (ciJ PR n) n x0 x1 emptySto) := by kernel_rfl
theorem v11 (n : Nat) (x0 x1 : DVal) (σ : Sto) : ciJ PR (n + 1) 11 [x0, x1] σ = finI (D11 (cpJ PR n) (ciJ PR n) n x0 x1 σ) := by kernel_rfl
theorem u12 (n : Nat) (x0 x1 x2 : DVal) : cpJ PR (n + 1) 12 [x0, x1, x2] = finP (D12 (cpJ PR n) (ciJ PR n) n x0 x1 x2 emptySto) := by kernel_rfl
theorem v12 (n : Nat) (x0 x1 x2 : DVal) (σ : Sto) : ciJ PR (n + 1) 12 [x0, x1, x2] σ = finI (D12 (cpJ PR n) (ciJ PR n) n x0 x1 x2 σ) := by kernel_rfl
theorem u13 (n : Nat) (x0 x1 x2 : DVal) : cpJ PR (n + 1) 13 [x0, x1, x2] = finP (D13 (cpJ PR n) (ciJ PR n) n x0 x1 x2 emptySto) := by kernel_rfl
theorem v13 (n : Nat) (x0 x1 x2 : DVal) (σ : Sto) : ciJ PR (n + 1) 13 [x0, x1, x2] σ = finI (D13 (cpJ PR n) (ciJ PR n) n x0 x1 x2 σ) := by kernel_rfl
theorem u14 (n : Nat) (x0 x1 x2 : DVal) : cpJ PR (n + 1) 14 [x0, x1, x2] = finP (D14 (cpJ PR n) (ciJ PR n) n x0 x1 x2 emptySto) := by kernel_rfl
theorem v14 (n : Nat) (x0 x1 x2 : DVal) (σ : Sto) : ciJ PR (n + 1) 14 [x0, x1, x2] σ = finI (D14 (cpJ PR n) (ciJ PR n) n x0 x1 x2 σ) := by kernel_rfl
theorem u15 (n : Nat) (x0 x1 x2 : DVal) : cpJ PR (n + 1) 15 [x0, x1, x2] = finP (D15 (cpJ PR n) (ciJ PR n) n x0 x1 x2 emptySto) := by kernel_rfl
theorem v15 (n : Nat) (x0 x1 x2 : DVal) (σ : Sto) : ciJ PR (n + 1) 15 [x0, x1, x2] σ = finI (D15 (cpJ PR n) (ciJ PR n) n x0 x1 x2 σ) := by kernel_rfl
theorem u16 (n : Nat) : cpJ PR (n + 1) 16 [] = finP (D16 (cpJ PR n) (ciJ PR n) n  emptySto) := by kernel_rfl
theorem v16 (n : Nat) (σ : Sto) : ciJ PR (n + 1) 16 [] σ = finI (D16 (cpJ PR n) (ciJ PR n) n  σ) := by kernel_rfl
theorem u17 (n : Nat) (x0 x1 : DVal) : cpJ PR (n + 1) 17 [x0, x1] = finP (D17 (cpJ PR n) (ciJ PR n) n x0 x1 emptySto) := by kernel_rfl
theorem v17 (n : Nat) (x0 x1 : DVal) (σ : Sto) : ciJ PR (n + 1) 17 [x0, x1] σ = finI (D17 (cpJ PR n) (ciJ PR n) n x0 x1 σ) := by kernel_rfl
theorem u18 (n : Nat) (x0 x1 : DVal) : cpJ PR (n + 1) 18 [x0, x1] = finP (D18 (cpJ PR n) (ciJ PR n) n x0 x1 emptySto) := by kernel_rfl
theorem v18 (n : Nat) (x0 x1 : DVal) (σ : Sto) : ciJ PR (n + 1) 18 [x0, x1] σ = finI (D18 (cpJ PR n) (ciJ PR n) n x0 x1 σ) := by kernel_rfl
theorem u19 (n : Nat) (x0 x1 : DVal) : cpJ PR (n + 1) 19 [x0, x1] = finP (D19 (cpJ PR n) (ciJ PR n) n x0 x1 emptySto) := by kernel_rfl
theorem v19 (n : Nat) (x0 x1 : DVal) (σ : Sto) : ciJ PR (n + 1) 19 [x0, x1] σ = finI (D19 (cpJ PR n) (ciJ PR n) n x0 x1 σ) := by kernel_rfl
theorem u20 (n : Nat) (x0 x1 : DVal) : cpJ PR (n + 1) 20 [x0, x1] = finP (D20 (cpJ PR n) (ciJ PR n) n x0 x1 emptySto) := by kernel_rfl
theorem v20 (n : Nat) (x0 x1 : DVal) (σ : Sto) : ciJ PR (n + 1) 20 [x0, x1] σ = finI (D20 (cpJ PR n) (ciJ PR n) n x0 x1 σ) := by kernel_rfl
theorem u21 (n : Nat) (x0 x1 : DVal) : cpJ PR (n + 1) 21 [x0, x1] = finP (D21 (cpJ PR n) (ciJ PR n) n x0 x1 emptySto) := by kernel_rfl
theorem v21 (n : Nat) (x0 x1 : DVal) (σ : Sto) : ciJ PR (n + 1) 21 [x0, x1] σ = finI (D21 (cpJ PR n) (ciJ PR n) n x0 x1 σ) := by kernel_rfl
theorem u22 (n : Nat) (x0 x1 : DVal) : cpJ PR (n + 1) 22 [x0, x1] = finP (D22 (cpJ PR n) (ciJ PR n) n x0 x1 emptySto) := by kernel_rfl
theorem v22 (n : Nat) (x0 x1 : DVal) (σ : Sto) : ciJ PR (n + 1) 22 [x0, x1] σ = finI (D22 (cpJ PR n) (ciJ PR n) n x0 x1 σ) := by kernel_rfl
theorem u23 (n : Nat) (x0 : DVal) : cpJ PR (n + 1) 23 [x0] = finP (D23 (cpJ PR n) (ciJ PR n) n x0 emptySto) := by kernel_rfl
theorem v23 (n : Nat) (x0 : DVal) (σ : Sto) : ciJ PR (n + 1) 23 [x0] σ = finI (D23 (cpJ PR n) (ciJ PR n) n x0 σ) := by kernel_rfl
theorem u24 (n : Nat) (x0 x1 x2 : DVal) : cpJ PR (n + 1) 24 [x0, x1, x2] = finP (D24 (cpJ PR n) (ciJ PR n) n x0 x1 x2 emptySto) := by kernel_rfl
theorem v24 (n : Nat) (x0 x1 x2 : DVal) (σ : Sto) : ciJ PR (n + 1) 24 [x0, x1, x2] σ = finI (D24 (cpJ PR n) (ciJ PR n) n x0 x1 x2 σ) := by kernel_rfl
theorem u25 (n : Nat) (x0 x1 x2 : DVal) : cpJ PR (n + 1) 25 [x0, x1, x2] = finP (D25 (cpJ PR n) (ciJ PR n) n x0 x1 x2 emptySto) := by kernel_rfl
theorem v25 (n : Nat) (x0 x1 x2 : DVal) (σ : Sto) : ciJ PR (n + 1) 25 [x0, x1, x2] σ = finI (D25 (cpJ PR n) (ciJ PR n) n x0 x1 x2 σ) := by kernel_rfl
theorem u26 (n : Nat) (x0 x1 x2 : DVal) : cpJ PR (n + 1) 26 [x0, x1, x2] = finP (D26 (cpJ PR n) (ciJ PR n) n x0 x1 x2 emptySto) := by kernel_rfl
theorem v26 (n : Nat) (x0 x1 x2 : DVal) (σ : Sto) : ciJ PR (n + 1) 26 [x0, x1, x2] σ = finI (D26 (cpJ PR n) (ciJ PR n) n x0 x1 x2 σ) := by kernel_rfl
theorem u27 (n : Nat) (x0 x1 x2 : DVal) : cpJ PR (n + 1) 27 [x0, x1, x2] = finP (D27 (cpJ PR n) (ciJ PR n) n x0 x1 x2 emptySto) := by kernel_rfl
theorem v27 (n : Nat) (x0 x1 x2 : DVal) (σ : Sto) : ciJ PR (n + 1) 27 [x0, x1, x2] σ = finI (D27 (cpJ PR n) (ciJ PR n) n x0 x1 x2 σ) := by kernel_rfl
theorem u28 (n : Nat) (x0 : DVal) : cpJ PR (n + 1) 28 [x0] = finP (D28 (cpJ PR n) (ciJ PR n) n x0 emptySto) := by kernel_rfl
theorem v28 (n : Nat) (x0 : DVal) (σ : Sto) : ciJ PR (n + 1) 28 [x0] σ = finI (D28 (cpJ PR n) (ciJ PR n) n x0 σ) := by kernel_rfl
theorem u29 (n : Nat) (x0 x1 x2 : DVal) : cpJ PR (n + 1) 29 [x0, x1, x2] = finP (D29 (cpJ PR n) (ciJ PR n) n x0 x1 x2 emptySto) := by kernel_rfl
theorem v29 (n : Nat) (x0 x1 x2 : DVal) (σ : Sto) : ciJ PR (n + 1) 29 [x0, x1, x2] σ = finI (D29 (cpJ PR n) (ciJ PR n) n x0 x1 x2 σ) := by kernel_rfl
theorem u30 (n : Nat) (x0 x1 x2 : DVal) : cpJ PR (n + 1) 30 [x0, x1, x2] = finP (D30 (cpJ PR n) (ciJ PR n) n x0 x1 x2 emptySto) := by kernel_rfl
theorem v30 (n : Nat) (x0 x1 x2 : DVal) (σ : Sto) : ciJ PR (n + 1) 30 [x0, x1, x2] σ = finI (D30 (cpJ PR n) (ciJ PR n) n x0 x1 x2 σ) := by kernel_rfl
theorem u31 (n : Nat) (x0 x1 x2 : DVal) : cpJ PR (n + 1) 31 [x0, x1, x2] = finP (D31 (cpJ PR n) (ciJ PR n) n x0 x1 x2 emptySto) := by kernel_rfl
theorem v31 (n : Nat) (x0 x1 x2 : DVal) (σ : Sto) : ciJ PR (n + 1) 31 [x0, x1, x2] σ = finI (D31 (cpJ PR n) (ciJ PR n) n x0 x1 x2 σ) := by kernel_rfl
theorem u32 (n : Nat) (x0 x1 x2 : DVal) : cpJ PR (n + 1) 32 [x0, x1, x2] = finP (D32 (cpJ PR n) (ciJ PR n) n x0 x1 x2 emptySto) := by kernel_rfl
theorem v32 (n : Nat) (x0 x1 x2 : DVal) (σ : Sto) : ciJ PR (n + 1) 32 [x0, x1, x2] σ = finI (D32 (cpJ PR n) (ciJ PR n) n x0 x1 x2 σ) := by kernel_rfl
theorem u33 (n : Nat) (x0 x1 : DVal) : cpJ PR (n + 1) 33 [x0, x1] = finP (D33 (cpJ PR n) (ciJ PR n) n x0 x1 emptySto) := by kernel_rfl
theorem v33 (n : Nat) (x0 x1 : DVal) (σ : Sto) : ciJ PR (n + 1) 33 [x0, x1] σ = finI (D33 (cpJ PR n) (ciJ PR n) n x0 x1 σ) := by kernel_rfl
theorem u34 (n : Nat) (x0 x1 : DVal) : cpJ PR (n + 1) 34 [x0, x1] = finP (D34 (cpJ PR n) (ciJ PR n) n x0 x1 emptySto) := by kernel_rfl
theorem v34 (n : Nat) (x0 x1 : DVal) (σ : Sto) : ciJ PR (n + 1) 34 [x0, x1] σ = finI (D34 (cpJ PR n) (ciJ PR n) n x0 x1 σ) := by kernel_rfl
theorem u35 (n : Nat) (x0 x1 : DVal) : cpJ PR (n + 1) 35 [x0, x1] = finP (D35 (cpJ PR n) (ciJ PR n) n x0 x1 emptySto) := by kernel_rfl
theorem v35 (n : Nat) (x0 x1 : DVal) (σ : Sto) : ciJ PR (n + 1) 35 [x0, x1] σ = finI (D35 (cpJ PR n) (ciJ PR n) n x0 x1 σ) := by kernel_rfl
theorem u36 (n : Nat) (x0 x1 : DVal) : cpJ PR (n + 1) 36 [x0, x1] = finP (D36 (cpJ PR n) (ciJ PR n) n x0 x1 emptySto) := by kernel_rfl
theorem v36 (n : Nat) (x0 x1 : DVal) (σ : Sto) : ciJ PR (n + 1) 36 [x0, x1] σ = finI (D36 (cpJ PR n) (ciJ PR n) n x0 x1 σ) := by kernel_rfl
theorem u37 (n : Nat) (x0 x1 : DVal) : cpJ PR (n + 1) 37 [x0, x1] = finP (D37 (cpJ PR n) (ciJ PR n) n x0 x1 emptySto) := by kernel_rfl
theorem v37 (n : Nat) (x0 x1 : DVal) (σ : Sto) : ciJ PR (n + 1) 37 [x0, x1] σ = finI (D37 (cpJ PR n) (ciJ PR n) n x0 x1 σ) := by kernel_rfl
theorem u38 (n : Nat) (x0 x1 : DVal) : cpJ PR (n + 1) 38 [x0, x1] = finP (D38 (cpJ PR n) (ciJ PR n) n x0 x1 emptySto) := by kernel_rfl
theorem v38 (n : Nat) (x0 x1 : DVal) (σ : Sto) : ciJ PR (n + 1) 38 [x0, x1] σ = finI (D38 (cpJ PR n) (ciJ PR n) n x0 x1 σ) := by kernel_rfl
theorem u39 (n : Nat) (x0 x1 x2 : DVal) : cpJ PR (n + 1) 39 [x0, x1, x2] = finP (D39 (cpJ PR n) (ciJ PR n) n x0 x1 x2 emptySto) := by kernel_rfl
theorem v39 (n : Nat) (x0 x1 x2 : DVal) (σ : Sto) : ciJ PR (n + 1) 39 [x0, x1, x2] σ = finI (D39 (cpJ PR n) (ciJ PR n) n x0 x1 x2 σ) := by kernel_rfl
theorem u40 (n : Nat) (x0 x1 x2 : DVal) : cpJ PR (n + 1) 40 [x0, x1, x2] = finP (D40 (cpJ PR n) (ciJ PR n) n x0 x1 x2 emptySto) := by kernel_rfl
theorem v40 (n : Nat) (x0 x1 x2 : DVal) (σ : Sto) : ciJ PR (n + 1) 40 [x0, x1, x2] σ = finI (D40 (cpJ PR n) (ciJ PR n) n x0 x1 x2 σ) := by kernel_rfl
theorem u41 (n : Nat) (x0 x1 : DVal) : cpJ PR (n + 1) 41 [x0, x1] = finP (D41 (cpJ PR n) (ciJ PR n) n x0 x1 emptySto) := by kernel_rfl
theorem v41 (n : Nat) (x0 x1 : DVal) (σ : Sto) : ciJ PR (n + 1) 41 [x0, x1] σ = finI (D41 (cpJ PR n) (ciJ PR n) n x0 x1 σ) := by kernel_rfl
theorem u42 (n : Nat) (x0 x1 : DVal) : cpJ PR (n + 1) 42 [x0, x1] = finP (D42 (cpJ PR n) (ciJ PR n) n x0 x1 emptySto) := by kernel_rfl
theorem v42 (n : Nat) (x0 x1 : DVal) (σ : Sto) : ciJ PR (n + 1) 42 [x0, x1] σ = finI (D42 (cpJ PR n) (ciJ PR n) n x0 x1 σ) := by kernel_rfl
theorem u43 (n : Nat) (x0 x1 x2 : DVal) : cpJ PR (n + 1) 43 [x0, x1, x2] = finP (D43 (cpJ PR n) (ciJ PR n) n x0 x1 x2 emptySto) := by kernel_rfl
theorem v43 (n : Nat) (x0 x1 x2 : DVal) (σ : Sto) : ciJ PR (n + 1) 43 [x0, x1, x2] σ = finI (D43 (cpJ PR n) (ciJ PR n) n x0 x1 x2 σ) := by kernel_rfl
theorem u44 (n : Nat) (x0 x1 x2 : DVal) : cpJ PR (n + 1) 44 [x0, x1, x2] = finP (D44 (cpJ PR n) (ciJ PR n) n x0 x1 x2 emptySto) := by kernel_rfl
theorem v44 (n : Nat) (x0 x1 x2 : DVal) (σ : Sto) : ciJ PR (n + 1) 44 [x0, x1, x2] σ = finI (D44 (cpJ PR n) (ciJ PR n) n x0 x1 x2 σ) := by kernel_rfl
theorem u45 (n : Nat) (x0 : DVal) : cpJ PR (n + 1) 45 [x0] = finP (D45 (cpJ PR n) (ciJ PR n) n x0 emptySto) := by kernel_rfl
theorem v45 (n : Nat) (x0 : DVal) (σ : Sto) : ciJ PR (n + 1) 45 [x0] σ = finI (D45 (cpJ PR n) (ciJ PR n) n x0 σ) := by kernel_rfl
theorem u46 (n : Nat) (x0 x1 : DVal) : cpJ PR (n + 1) 46 [x0, x1] = finP (D46 (cpJ PR n) (ciJ PR n) n x0 x1 emptySto) := by kernel_rfl
theorem v46 (n : Nat) (x0 x1 : DVal) (σ : Sto) : ciJ PR (n + 1) 46 [x0, x1] σ = finI (D46 (cpJ PR n) (ciJ PR n) n x0 x1 σ) := by kernel_rfl
theorem u48 (n : Nat) (x0 : DVal) : cpJ PR (n + 1) 48 [x0] = finP (D48 (cpJ PR n) (ciJ PR n) n x0 emptySto) := by kernel_rfl
theorem v48 (n : Nat) (x0 : DVal) (σ : Sto) : ciJ PR (n + 1) 48 [x0] σ = finI (D48 (cpJ PR n) (ciJ PR n) n x0 σ) := by kernel_rfl
theorem u49 (n : Nat) (x0 x1 : DVal) : cpJ PR (n + 1) 49 [x0, x1] = finP (D49 (cpJ PR n) (ciJ PR n) n x0 x1 emptySto) := by kernel_rfl
theorem v49 (n : Nat) (x0 x1 : DVal) (σ : Sto) : ciJ PR (n + 1) 49 [x0, x1] σ = finI (D49 (cpJ PR n) (ciJ PR n) n x0 x1 σ) := by kernel_rfl
theorem u50 (n : Nat) (x0 : DVal) : cpJ PR (n + 1) 50 [x0] = finP (D50 (cpJ PR n) (ciJ PR n) n x0 emptySto) := by kernel_rfl
theorem v50 (n : Nat) (x0 : DVal) (σ : Sto) : ciJ PR (n + 1) 50 [x0] σ = finI (D50 (cpJ PR n) (ciJ PR n) n x0 σ) := by kernel_rfl
theorem u51 (n : Nat) (x0 x1 : DVal) : cpJ PR (n + 1) 51 [x0, x1] = finP (D51 (cpJ PR n) (ciJ PR n) n x0 x1 emptySto) := by kernel_rfl
theorem v51 (n : Nat) (x0 x1 : DVal) (σ : Sto) : ciJ PR (n + 1) 51 [x0, x1] σ = finI (D51 (cpJ PR n) (ciJ PR n) n x0 x1 σ) := by kernel_rfl
theorem u52 (n : Nat) (x0 x1 : DVal) : cpJ PR (n + 1) 52 [x0, x1] = finP (D52 (cpJ PR n) (ciJ PR n) n x0 x1 emptySto) := by kernel_rfl
theorem v52 (n : Nat) (x0 x1 : DVal) (σ : Sto) : ciJ PR (n + 1) 52 [x0, x1] σ = finI (D52 (cpJ PR n) (ciJ PR n) n x0 x1 σ) := by kernel_rfl
theorem u53 (n : Nat) (x0 x1 x2 : DVal) : cpJ PR (n + 1) 53 [x0, x1, x2] = finP (D53 (cpJ PR n) (ciJ PR n) n x0 x1 x2 emptySto) := by kernel_rfl
theorem v53 (n : Nat) (x0 x1 x2 : DVal) (σ : Sto) : ciJ PR (n + 1) 53 [x0, x1, x2] σ = finI (D53 (cpJ PR n) (ciJ PR n) n x0 x1 x2 σ) := by kernel_rfl
theorem u54 (n : Nat) (x0 x1 : DVal) : cpJ PR (n + 1) 54 [x0, x1] = finP (D54 (cpJ PR n) (ciJ PR n) n x0 x1 emptySto) := by kernel_rfl
theorem v54 (n : Nat) (x0 x1 : DVal) (σ : Sto) : ciJ PR (n + 1) 54 [x0, x1] σ = finI (D54 (cpJ PR n) (ciJ PR n) n x0 x1 σ) := by kernel_rfl
theorem u55 (n : Nat) (x0 x1 : DVal) : cpJ PR (n + 1) 55 [x0, x1] = finP (D55 (cpJ PR n) (ciJ PR n) n x0 x1 emptySto) := by kernel_rfl
theorem v55 (n : Nat) (x0 x1 : DVal) (σ : Sto) : ciJ PR (n + 1) 55 [x0, x1] σ = finI (D55 (cpJ PR n) (ciJ PR n) n x0 x1 σ) := by kernel_rfl
theorem u56 (n : Nat) (x0 : DVal) : cpJ PR (n + 1) 56 [x0] = finP (D56 (cpJ PR n) (ciJ PR n) n x0 emptySto) := by kernel_rfl
theorem v56 (n : Nat) (x0 : DVal) (σ : Sto) : ciJ PR (n + 1) 56 [x0] σ = finI (D56 (cpJ PR n) (ciJ PR n) n x0 σ) := by kernel_rfl
theorem u58 (n : Nat) (x0 x1 : DVal) : cpJ PR (n + 1) 58 [x0, x1] = finP (D58 (cpJ PR n) (ciJ PR n) n x0 x1 emptySto) := by kernel_rfl
theorem v58 (n : Nat) (x0 x1 : DVal) (σ : Sto) : ciJ PR (n + 1) 58 [x0, x1] σ = finI (D58 (cpJ PR n) (ciJ PR n) n x0 x1 σ) := by kernel_rfl
theorem u60 (n : Nat) (x0 : DVal) : cpJ PR (n + 1) 60 [x0] = finP (D60 (cpJ PR n) (ciJ PR n) n x0 emptySto) := by kernel_rfl
theorem v60 (n : Nat) (x0 : DVal) (σ : Sto) : ciJ PR (n + 1) 60 [x0] σ = finI (D60 (cpJ PR n) (ciJ PR n) n x0 σ) := by kernel_rfl
theorem u61 (n : Nat) (x0 x1 : DVal) : cpJ PR (n + 1) 61 [x0, x1] = finP (D61 (cpJ PR n) (ciJ PR n) n x0 x1 emptySto) := by kernel_rfl
theorem v61 (n : Nat) (x0 x1 : DVal) (σ : Sto) : ciJ PR (n + 1) 61 [x0, x1] σ = finI (D61 (cpJ PR n) (ciJ PR n) n x0 x1 σ) := by kernel_rfl
theorem u62 (n : Nat) (x0 : DVal) : cpJ PR (n + 1) 62 [x0] = finP (D62 (cpJ PR n) (ciJ PR n) n x0 emptySto) := by kernel_rfl
theorem v62 (n : Nat) (x0 : DVal) (σ : Sto) : ciJ PR (n + 1) 62 [x0] σ = finI (D62 (cpJ PR n) (ciJ PR n) n x0 σ) := by kernel_rfl
theorem u63 (n : Nat) (x0 x1 : DVal) : cpJ PR (n + 1) 63 [x0, x1] = finP (D63 (cpJ PR n) (ciJ PR n) n x0 x1 emptySto) := by kernel_rfl
theorem v63 (n : Nat) (x0 x1 : DVal) (σ : Sto) : ciJ PR (n + 1) 63 [x0, x1] σ = finI (D63 (cpJ PR n) (ciJ PR n) n x0 x1 σ) := by kernel_rfl
theorem u64 (n : Nat) (x0 x1 : DVal) : cpJ PR (n + 1) 64 [x0, x1] = finP (D64 (cpJ PR n) (ciJ PR n) n x0 x1 emptySto) := by kernel_rfl
theorem v64 (n : Nat) (x0 x1 : DVal) (σ : Sto) : ciJ PR (n + 1) 64 [x0, x1] σ = finI (D64 (cpJ PR n) (ciJ PR n) n x0 x1 σ) := by kernel_rfl
theorem u68 (n : Nat) (x0 x1 : DVal) : cpJ PR (n + 1) 68 [x0, x1] = finP (D68 (cpJ PR n) (ciJ PR n) n x0 x1 emptySto) := by kernel_rfl
theorem v68 (n : Nat) (x0 x1 : DVal) (σ : Sto) : ciJ PR (n + 1) 68 [x0, x1] σ = finI (D68 (cpJ PR n) (ciJ PR n) n x0 x1 σ) := by kernel_rfl
theorem u70 (n : Nat) (x0 : DVal) : cpJ PR (n + 1) 70 [x0] = finP (D70 (cpJ PR n) (ciJ PR n) n x0 emptySto) := by kernel_rfl
theorem v70 (n : Nat) (x0 : DVal) (σ : Sto) : ciJ PR (n + 1) 70 [x0] σ = finI (D70 (cpJ PR n) (ciJ PR n) n x0 σ) := by kernel_rfl
theorem u72 (n : Nat) (x0 : DVal) : cpJ PR (n + 1) 72 [x0] = finP (D72 (cpJ PR n) (ciJ PR n) n x0 emptySto) := by kernel_rfl
theorem v72 (n : Nat) (x0 : DVal) (σ : Sto) : ciJ PR (n + 1) 72 [x0] σ = finI (D72 (cpJ PR n) (ciJ PR n) n x0 σ) := by kernel_rfl
theorem u73 (n : Nat) (x0 x1 : DVal) : cpJ PR (n + 1) 73 [x0, x1] = finP (D73 (cpJ PR n) (ciJ PR n) n x0 x1 emptySto) := by kernel_rfl
theorem v73 (n : Nat) (x0 x1 : DVal) (σ : Sto) : ciJ PR (n + 1) 73 [x0, x1] σ = finI (D73 (cpJ PR n) (ciJ PR n) n x0 x1 σ) := by kernel_rfl

end Go.Proofs.YticbfdcfopilfaaDoor
