/- The trees of the functions, as the tool printed them. -/
import Derived.Test.YticbfdcfopilfaaDoorTree
set_option linter.unusedVariables false
set_option maxRecDepth 100000
namespace Go.Proofs.YticbfdcfopilfaaDoor
open Go

/-- accesscontrol accesscontrollaw05.LevelChecks -/
def T3 : T :=
(.p .box [.v 0] none
(.p (.p (.fld 0 (some 2))) [.v 3] none
(.p (.p (.call 12)) [.v 4, .v 1, .v 2] none
(.p (.p (.fld 0 (some 2))) [.v 3] none
(.p (.p (.call 13)) [.v 6, .v 1, .v 2] none
(.p (.p (.eqb false)) [.v 5, .v 7] none
(.p (.p (.fld 0 (some 4))) [.v 3] (some (8, true))
(.p (.p (.mv)) [.v 1] (some (8, true))
(.p (.p (.mv)) [.v 2] (some (8, true))
(.p (.p (.call 14)) [.v 9, .v 10, .v 11] (some (8, true))
(.p (.p (.fld 0 (some 4))) [.v 3] (some (8, true))
(.p (.p (.mv)) [.v 1] (some (8, true))
(.p (.p (.mv)) [.v 2] (some (8, true))
(.p (.p (.call 15)) [.v 13, .v 14, .v 15] (some (8, true))
(.p (.p (.eqb false)) [.v 12, .v 16] (some (8, true))
(.p (.p (.pick)) [.v 8, .v 17, .k (.bool false)] none
(.p (.p (.call 16)) [] (some (18, true))
(.p (.p (.pick)) [.v 18, .v 19, .k (.bool false)] none
(.ret [.v 20])))))))))))))))))))
def H3 : List (Nat × Nat) := [(12, 5), (7, 5), (3, 5)]
/-- accesscontrol accesscontrollaw05.LevelRelates -/
def T4 : T :=
(.p .box [.v 0] none
(.p .box [.v 1] none
(.p (.p (.fld 0 (some 2))) [.v 2] none
(.p (.p (.fld 0 (some 2))) [.v 3] none
(.p (.p (.call 17)) [.v 4, .v 5] none
(.p (.p (.fld 0 (some 2))) [.v 3] none
(.p (.p (.fld 0 (some 2))) [.v 2] none
(.p (.p (.call 17)) [.v 7, .v 8] none
(.p (.p (.fld 0 (some 2))) [.v 2] none
(.p (.p (.fld 0 (some 2))) [.v 3] none
(.p (.p (.call 18)) [.v 10, .v 11] none
(.p (.p (.fld 0 (some 2))) [.v 2] none
(.p (.p (.fld 0 (some 2))) [.v 3] none
(.p (.p (.call 19)) [.v 13, .v 14] none
(.p (.p (.eqb true)) [.v 6, .v 15] none
(.p (.p (.mv)) [.v 9] (some (16, false))
(.p (.p (.fld 0 (some 2))) [.v 3] (some (16, false))
(.p (.p (.fld 0 (some 2))) [.v 2] (some (16, false))
(.p (.p (.call 19)) [.v 18, .v 19] (some (16, false))
(.p (.p (.eqb true)) [.v 17, .v 20] (some (16, false))
(.p (.p (.pick)) [.v 16, .k (.bool true), .v 21] none
(.p (.p (.mv)) [.v 12] (some (22, false))
(.p (.p (.fld 0 (some 2))) [.v 2] (some (22, false))
(.p (.p (.fld 0 (some 2))) [.v 3] (some (22, false))
(.p (.p (.call 20)) [.v 24, .v 25] (some (22, false))
(.p (.p (.bin .neq)) [.v 23, .v 26] (some (22, false))
(.p (.p (.pick)) [.v 22, .k (.bool true), .v 27] none
(.ite (.v 28) (.ret [.k (.bool false)])
(.p (.p (.bin .eql)) [.v 12, .k (.int .i64 0)] none
(.p (.p (.mv)) [.v 9] (some (6, true))
(.p (.p (.pick)) [.v 6, .v 30, .k (.bool false)] none
(.p (.p (.eqb false)) [.v 29, .v 31] none
(.p (.p (.mv)) [.v 12] (some (32, true))
(.p (.p (.bin .eql)) [.v 33, .k (.int .i64 4)] (some (32, true))
(.p (.p (.mv)) [.v 6] (some (32, true))
(.p (.p (.un .not)) [.v 35] (some (32, true))
(.p (.p (.mv)) [.v 36] (some (32, true))
(.p (.p (.mv)) [.v 9] (some (37, true))
(.p (.p (.un .not)) [.v 38] (some (37, true))
(.p (.p (.pick)) [.v 37, .v 39, .k (.bool false)] (some (32, true))
(.p (.p (.eqb false)) [.v 34, .v 40] (some (32, true))
(.p (.p (.pick)) [.v 32, .v 41, .k (.bool false)] none
(.p (.p (.mv)) [.v 12] (some (42, true))
(.p (.p (.bin .eql)) [.v 43, .k (.int .i64 2)] (some (42, true))
(.p (.p (.mv)) [.v 6] (some (42, true))
(.p (.p (.mv)) [.v 45] (some (42, true))
(.p (.p (.mv)) [.v 9] (some (46, true))
(.p (.p (.un .not)) [.v 47] (some (46, true))
(.p (.p (.pick)) [.v 46, .v 48, .k (.bool false)] (some (42, true))
(.p (.p (.eqb false)) [.v 44, .v 49] (some (42, true))
(.p (.p (.pick)) [.v 42, .v 50, .k (.bool false)] none
(.p (.p (.call 16)) [] (some (51, true))
(.p (.p (.pick)) [.v 51, .v 52, .k (.bool false)] none
(.ret [.v 53]))))))))))))))))))))))))))))))))))))))))))))))))))))))
def H4 : List (Nat × Nat) := [(3, 5), (2, 4)]
/-- accesscontrol accesscontrollaw05.LevelLattice -/
def T5 : T :=
(.p .box [.v 0] none
(.p .box [.v 1] none
(.p .box [.v 2] none
(.p (.p (.fld 0 (some 2))) [.v 3] none
(.p (.p (.fld 0 (some 2))) [.v 4] none
(.p (.p (.call 21)) [.v 6, .v 7] none
(.p (.p (.fld 0 (some 2))) [.v 3] none
(.p (.p (.fld 0 (some 2))) [.v 4] none
(.p (.p (.call 22)) [.v 9, .v 10] none
(.p (.wr 0 2) [.k (.agg [(.int .i64 0), (.int .u64 0)]), .v 8] none
(.p (.wr 0 2) [.k (.agg [(.int .i64 0), (.int .u64 0)]), .v 11] none
(.p (.p (.fld 0 (some 2))) [.v 3] none
(.p (.p (.fld 0 (some 2))) [.v 3] none
(.p (.p (.call 17)) [.v 14, .v 15] none
(.p (.p (.un .not)) [.v 16] none
(.p (.p (.fld 0 (some 2))) [.v 3] (some (17, false))
(.p (.p (.fld 0 (some 2))) [.v 4] (some (17, false))
(.p (.p (.call 17)) [.v 18, .v 19] (some (17, false))
(.p (.p (.mv)) [.v 20] (some (17, false))
(.p (.p (.fld 0 (some 2))) [.v 4] (some (21, true))
(.p (.p (.fld 0 (some 2))) [.v 5] (some (21, true))
(.p (.p (.call 17)) [.v 22, .v 23] (some (21, true))
(.p (.p (.pick)) [.v 21, .v 24, .k (.bool false)] (some (17, false))
(.p (.p (.mv)) [.v 25] (some (17, false))
(.p (.p (.fld 0 (some 2))) [.v 3] (some (26, true))
(.p (.p (.fld 0 (some 2))) [.v 5] (some (26, true))
(.p (.p (.call 17)) [.v 27, .v 28] (some (26, true))
(.p (.p (.un .not)) [.v 29] (some (26, true))
(.p (.p (.pick)) [.v 26, .v 30, .k (.bool false)] (some (17, false))
(.p (.p (.pick)) [.v 17, .k (.bool true), .v 31] none
(.p (.p (.fld 0 (some 2))) [.v 3] (some (32, false))
(.p (.p (.fld 0 (some 2))) [.v 4] (some (32, false))
(.p (.p (.call 17)) [.v 33, .v 34] (some (32, false))
(.p (.p (.mv)) [.v 35] (some (32, false))
(.p (.p (.fld 0 (some 2))) [.v 4] (some (36, true))
(.p (.p (.fld 0 (some 2))) [.v 3] (some (36, true))
(.p (.p (.call 17)) [.v 37, .v 38] (some (36, true))
(.p (.p (.pick)) [.v 36, .v 39, .k (.bool false)] (some (32, false))
(.p (.p (.mv)) [.v 40] (some (32, false))
(.p (.p (.fld 0 (some 2))) [.v 3] (some (41, true))
(.p (.p (.fld 0 (some 2))) [.v 4] (some (41, true))
(.p (.p (.eqa true [.i .i64, .i .u64])) [.v 42, .v 43] (some (41, true))
(.p (.p (.pick)) [.v 41, .v 44, .k (.bool false)] (some (32, false))
(.p (.p (.pick)) [.v 32, .k (.bool true), .v 45] none
(.ite (.v 46) (.ret [.k (.bool false)])
(.p (.p (.fld 0 (some 2))) [.v 12] none
(.p (.p (.fld 0 (some 2))) [.v 3] none
(.p (.p (.call 17)) [.v 47, .v 48] none
(.p (.p (.un .not)) [.v 49] none
(.p (.p (.fld 0 (some 2))) [.v 12] (some (50, false))
(.p (.p (.fld 0 (some 2))) [.v 4] (some (50, false))
(.p (.p (.call 17)) [.v 51, .v 52] (some (50, false))
(.p (.p (.un .not)) [.v 53] (some (50, false))
(.p (.p (.pick)) [.v 50, .k (.bool true), .v 54] none
(.p (.p (.fld 0 (some 2))) [.v 3] (some (55, false))
(.p (.p (.fld 0 (some 2))) [.v 13] (some (55, false))
(.p (.p (.call 17)) [.v 56, .v 57] (some (55, false))
(.p (.p (.un .not)) [.v 58] (some (55, false))
(.p (.p (.pick)) [.v 55, .k (.bool true), .v 59] none
(.p (.p (.fld 0 (some 2))) [.v 4] (some (60, false))
(.p (.p (.fld 0 (some 2))) [.v 13] (some (60, false))
(.p (.p (.call 17)) [.v 61, .v 62] (some (60, false))
(.p (.p (.un .not)) [.v 63] (some (60, false))
(.p (.p (.pick)) [.v 60, .k (.bool true), .v 64] none
(.ite (.v 65) (.ret [.k (.bool false)])
(.p (.p (.fld 0 (some 2))) [.v 5] none
(.p (.p (.fld 0 (some 2))) [.v 3] none
(.p (.p (.call 17)) [.v 66, .v 67] none
(.p (.p (.fld 0 (some 2))) [.v 5] (some (68, true))
(.p (.p (.fld 0 (some 2))) [.v 4] (some (68, true))
(.p (.p (.call 17)) [.v 69, .v 70] (some (68, true))
(.p (.p (.fld 0 (some 2))) [.v 5] (some (68, true))
(.p (.p (.fld 0 (some 2))) [.v 12] (some (68, true))
(.p (.p (.call 17)) [.v 72, .v 73] (some (68, true))
(.p (.p (.eqb true)) [.v 71, .v 74] (some (68, true))
(.p (.p (.pick)) [.v 68, .v 75, .k (.bool false)] none
(.p (.p (.fld 0 (some 2))) [.v 3] (some (76, false))
(.p (.p (.fld 0 (some 2))) [.v 5] (some (76, false))
(.p (.p (.call 17)) [.v 77, .v 78] (some (76, false))
(.p (.p (.mv)) [.v 79] (some (76, false))
(.p (.p (.fld 0 (some 2))) [.v 4] (some (80, true))
(.p (.p (.fld 0 (some 2))) [.v 5] (some (80, true))
(.p (.p (.call 17)) [.v 81, .v 82] (some (80, true))
(.p (.p (.fld 0 (some 2))) [.v 13] (some (80, true))
(.p (.p (.fld 0 (some 2))) [.v 5] (some (80, true))
(.p (.p (.call 17)) [.v 84, .v 85] (some (80, true))
(.p (.p (.eqb true)) [.v 83, .v 86] (some (80, true))
(.p (.p (.pick)) [.v 80, .v 87, .k (.bool false)] (some (76, false))
(.p (.p (.pick)) [.v 76, .k (.bool true), .v 88] none
(.ite (.v 89) (.ret [.k (.bool false)])
(.p (.p (.fld 0 (some 2))) [.v 4] none
(.p (.p (.fld 0 (some 2))) [.v 3] none
(.p (.p (.call 21)) [.v 90, .v 91] none
(.p (.p (.fld 0 (some 2))) [.v 12] none
(.p (.p (.eqa false [.i .i64, .i .u64])) [.v 92, .v 93] none
(.p (.p (.fld 0 (some 2))) [.v 4] (some (94, true))
(.p (.p (.fld 0 (some 2))) [.v 3] (some (94, true))
(.p (.p (.call 22)) [.v 95, .v 96] (some (94, true))
(.p (.p (.fld 0 (some 2))) [.v 13] (some (94, true))
(.p (.p (.eqa false [.i .i64, .i .u64])) [.v 97, .v 98] (some (94, true))
(.p (.p (.pick)) [.v 94, .v 99, .k (.bool false)] none
(.p (.p (.fld 0 (some 2))) [.v 3] (some (100, true))
(.p (.p (.fld 0 (some 2))) [.v 13] (some (100, true))
(.p (.p (.call 21)) [.v 101, .v 102] (some (100, true))
(.p (.p (.fld 0 (some 2))) [.v 3] (some (100, true))
(.p (.p (.eqa false [.i .i64, .i .u64])) [.v 103, .v 104] (some (100, true))
(.p (.p (.pick)) [.v 100, .v 105, .k (.bool false)] none
(.p (.p (.fld 0 (some 2))) [.v 3] (some (106, true))
(.p (.p (.fld 0 (some 2))) [.v 12] (some (106, true))
(.p (.p (.call 22)) [.v 107, .v 108] (some (106, true))
(.p (.p (.fld 0 (some 2))) [.v 3] (some (106, true))
(.p (.p (.eqa false [.i .i64, .i .u64])) [.v 109, .v 110] (some (106, true))
(.p (.p (.pick)) [.v 106, .v 111, .k (.bool false)] none
(.p (.p (.fld 0 (some 2))) [.v 3] (some (112, true))
(.p (.p (.fld 0 (some 2))) [.v 4] (some (112, true))
(.p (.p (.call 21)) [.v 113, .v 114] (some (112, true))
(.p (.p (.fld 0 (some 2))) [.v 5] (some (112, true))
(.p (.p (.call 21)) [.v 115, .v 116] (some (112, true))
(.p (.p (.fld 0 (some 2))) [.v 3] (some (112, true))
(.p (.p (.fld 0 (some 2))) [.v 4] (some (112, true))
(.p (.p (.fld 0 (some 2))) [.v 5] (some (112, true))
(.p (.p (.call 21)) [.v 119, .v 120] (some (112, true))
(.p (.p (.call 21)) [.v 118, .v 121] (some (112, true))
(.p (.p (.eqa false [.i .i64, .i .u64])) [.v 117, .v 122] (some (112, true))
(.p (.p (.pick)) [.v 112, .v 123, .k (.bool false)] none
(.p (.p (.call 16)) [] (some (124, true))
(.p (.p (.pick)) [.v 124, .v 125, .k (.bool false)] none
(.ret [.v 126]))))))))))))))))))))))))))))))))))))))))))))))))))))))))))))))))))))))))))))))))))))))))))))))))))))))))))))))))))))))))))))))))
def H5 : List (Nat × Nat) := [(8, 10), (7, 9), (5, 7), (4, 6), (3, 5)]
/-- accesscontrol accesscontrollaw05.LevelTexts -/
def T6 : T :=
(.p .box [.v 0] none
(.p .box [.v 1] none
(.p (.p (.fld 0 (some 2))) [.v 3] none
(.p (.p (.call 23)) [.v 4] none
(.p (.p (.un .not)) [.v 5] none
(.ite (.v 6) (.p (.p (.call 16)) [] none
(.ret [.v 7]))
(.p (.p (.fld 0 (some 4))) [.v 2] none
(.p (.p (.fld 0 none)) [.v 3] none
(.p (.p (.fld 1 none)) [.v 3] none
(.p (.p (.call 24)) [.v 7, .v 8, .v 9] none
(.p (.p (.ext 0)) [.v 10] none
(.p (.p (.ext 1)) [.v 10] none
(.p (.p (.fld 0 (some 4))) [.v 2] none
(.p (.p (.fld 0 none)) [.v 3] none
(.p (.p (.fld 1 none)) [.v 3] none
(.p (.p (.call 25)) [.v 13, .v 14, .v 15] none
(.p (.p (.ext 0)) [.v 16] none
(.p (.p (.ext 1)) [.v 16] none
(.p (.p (.bin .eql)) [.v 11, .v 17] none
(.p (.p (.mv)) [.v 12] (some (19, true))
(.p (.p (.mv)) [.v 18] (some (19, true))
(.p (.p (.bin .eql)) [.v 20, .v 21] (some (19, true))
(.p (.p (.pick)) [.v 19, .v 22, .k (.bool false)] none
(.p (.p (.call 16)) [] (some (23, true))
(.p (.p (.pick)) [.v 23, .v 24, .k (.bool false)] none
(.ret [.v 25]))))))))))))))))))))))))))
def H6 : List (Nat × Nat) := [(26, 5), (24, 5), (17, 5), (15, 5), (3, 5), (2, 4)]
/-- accesscontrol accesscontrollaw05.LevelParses -/
def T7 : T :=
(.p .box [.v 1] none
(.p (.p (.fld 0 (some 2))) [.v 2] none
(.p (.p (.call 23)) [.v 3] none
(.p (.p (.un .not)) [.v 4] none
(.p (.p (.mv)) [.v 0] (some (5, false))
(.p (.p (.lenStr)) [.v 6] (some (5, false))
(.p (.p (.bin .gtr)) [.v 7, .k (.int .i64 1000)] (some (5, false))
(.p (.p (.pick)) [.v 5, .k (.bool true), .v 8] none
(.ite (.v 9) (.p (.p (.call 16)) [] none
(.ret [.v 10]))
(.p (.p (.fld 0 none)) [.v 2] none
(.p (.p (.fld 1 none)) [.v 2] none
(.p (.p (.call 26)) [.v 0, .v 10, .v 11] none
(.p (.p (.ext 0)) [.v 12] none
(.p (.p (.ext 1)) [.v 12] none
(.p (.wr 0 4) [.k (.agg [(.int .i64 0), (.int .u64 0), (.int .i64 0), (.int .u64 0)]), .v 13] none
(.p (.p (.fld 0 none)) [.v 2] none
(.p (.p (.fld 1 none)) [.v 2] none
(.p (.p (.call 27)) [.v 0, .v 16, .v 17] none
(.p (.p (.ext 0)) [.v 18] none
(.p (.p (.ext 1)) [.v 18] none
(.p (.wr 0 4) [.k (.agg [(.int .i64 0), (.int .u64 0), (.int .i64 0), (.int .u64 0)]), .v 19] none
(.p (.p (.fld 0 (some 4))) [.v 15] none
(.p (.p (.fld 0 (some 4))) [.v 21] none
(.p (.p (.eqa false [.i .i64, .i .u64, .i .i64, .i .u64])) [.v 22, .v 23] none
(.p (.p (.mv)) [.v 14] (some (24, true))
(.p (.p (.mv)) [.v 20] (some (24, true))
(.p (.p (.bin .eql)) [.v 25, .v 26] (some (24, true))
(.p (.p (.pick)) [.v 24, .v 27, .k (.bool false)] none
(.p (.p (.mv)) [.v 14] (some (28, true))
(.p (.p (.bin .neq)) [.v 29, .k (.int .i64 0)] (some (28, true))
(.p (.p (.mv)) [.v 30] (some (28, true))
(.p (.p (.fld 0 (some 4))) [.v 15] (some (31, false))
(.p (.p (.fld 0 none)) [.v 2] (some (31, false))
(.p (.p (.lenSl)) [.v 33] (some (31, false))
(.p (.p (.fld 1 none)) [.v 2] (some (31, false))
(.p (.p (.lenSl)) [.v 35] (some (31, false))
(.p (.p (.call 14)) [.v 32, .v 34, .v 36] (some (31, false))
(.p (.p (.pick)) [.v 31, .k (.bool true), .v 37] (some (28, true))
(.p (.p (.pick)) [.v 28, .v 38, .k (.bool false)] none
(.p (.p (.call 16)) [] (some (39, true))
(.p (.p (.pick)) [.v 39, .v 40, .k (.bool false)] none
(.ret [.v 41]))))))))))))))))))))))))))))))))))))))))))
def H7 : List (Nat × Nat) := [(52, 5), (49, 5), (7, 9), (31, 5), (29, 5), (5, 7), (22, 5), (20, 5), (3, 5)]
/-- accesscontrol accesscontrollaw05.LevelSources -/
def T8 : T :=
(.p .box [.v 0] none
(.p .box [.v 1] none
(.p (.p (.fld 0 (some 2))) [.v 3] none
(.p (.p (.call 23)) [.v 4] none
(.p (.p (.un .not)) [.v 5] none
(.p (.p (.fld 0 (some 2))) [.v 2] (some (6, false))
(.p (.p (.call 28)) [.v 7] (some (6, false))
(.p (.p (.un .not)) [.v 8] (some (6, false))
(.p (.p (.pick)) [.v 6, .k (.bool true), .v 9] none
(.p (.p (.fld 2 (some 2))) [.v 2] (some (10, false))
(.p (.p (.call 28)) [.v 11] (some (10, false))
(.p (.p (.un .not)) [.v 12] (some (10, false))
(.p (.p (.pick)) [.v 10, .k (.bool true), .v 13] none
(.ite (.v 14) (.p (.p (.call 16)) [] none
(.ret [.v 15]))
(.p (.p (.fld 0 (some 2))) [.v 2] none
(.p (.p (.fld 0 none)) [.v 3] none
(.p (.p (.fld 1 none)) [.v 3] none
(.p (.p (.call 29)) [.v 15, .v 16, .v 17] none
(.p (.p (.ext 0)) [.v 18] none
(.p (.p (.ext 1)) [.v 18] none
(.p (.wr 0 2) [.k (.agg [(.int .i64 0), (.int .u64 0)]), .v 19] none
(.p (.p (.fld 0 (some 2))) [.v 2] none
(.p (.p (.fld 0 none)) [.v 3] none
(.p (.p (.fld 1 none)) [.v 3] none
(.p (.p (.call 30)) [.v 22, .v 23, .v 24] none
(.p (.p (.ext 0)) [.v 25] none
(.p (.p (.ext 1)) [.v 25] none
(.p (.wr 0 2) [.k (.agg [(.int .i64 0), (.int .u64 0)]), .v 26] none
(.p (.p (.fld 0 (some 4))) [.v 2] none
(.p (.p (.fld 0 none)) [.v 3] none
(.p (.p (.fld 1 none)) [.v 3] none
(.p (.p (.call 31)) [.v 29, .v 30, .v 31] none
(.p (.p (.ext 0)) [.v 32] none
(.p (.p (.ext 1)) [.v 32] none
(.p (.wr 0 4) [.k (.agg [(.int .i64 0), (.int .u64 0), (.int .i64 0), (.int .u64 0)]), .v 33] none
(.p (.p (.fld 0 (some 4))) [.v 2] none
(.p (.p (.fld 0 none)) [.v 3] none
(.p (.p (.fld 1 none)) [.v 3] none
(.p (.p (.call 32)) [.v 36, .v 37, .v 38] none
(.p (.p (.ext 0)) [.v 39] none
(.p (.p (.ext 1)) [.v 39] none
(.p (.wr 0 4) [.k (.agg [(.int .i64 0), (.int .u64 0), (.int .i64 0), (.int .u64 0)]), .v 40] none
(.p (.p (.fld 0 (some 2))) [.v 21] none
(.p (.p (.fld 0 (some 2))) [.v 28] none
(.p (.p (.eqa false [.i .i64, .i .u64])) [.v 43, .v 44] none
(.p (.p (.mv)) [.v 20] (some (45, true))
(.p (.p (.mv)) [.v 27] (some (45, true))
(.p (.p (.bin .eql)) [.v 46, .v 47] (some (45, true))
(.p (.p (.pick)) [.v 45, .v 48, .k (.bool false)] none
(.p (.p (.fld 0 (some 4))) [.v 35] (some (49, true))
(.p (.p (.fld 0 (some 4))) [.v 42] (some (49, true))
(.p (.p (.eqa false [.i .i64, .i .u64, .i .i64, .i .u64])) [.v 50, .v 51] (some (49, true))
(.p (.p (.pick)) [.v 49, .v 52, .k (.bool false)] none
(.p (.p (.mv)) [.v 34] (some (53, true))
(.p (.p (.mv)) [.v 41] (some (53, true))
(.p (.p (.bin .eql)) [.v 54, .v 55] (some (53, true))
(.p (.p (.pick)) [.v 53, .v 56, .k (.bool false)] none
(.p (.p (.call 16)) [] (some (57, true))
(.p (.p (.pick)) [.v 57, .v 58, .k (.bool false)] none
(.ret [.v 59]))))))))))))))))))))))))))))))))))))))))))))))))))))))))))))
def H8 : List (Nat × Nat) := [(11, 13), (62, 5), (60, 5), (9, 11), (53, 5), (51, 5), (7, 9), (44, 5), (42, 5), (40, 4), (5, 7), (34, 5), (32, 5), (30, 4), (23, 4), (17, 4), (3, 5), (2, 4)]
/-- accesscontrol accesscontrollaw05.LevelRanges -/
def T9 : T :=
(.p .box [.v 0] none
(.p .box [.v 1] none
(.p .box [.v 2] none
(.p (.p (.fld 0 (some 4))) [.v 3] none
(.p (.p (.fld 0 (some 4))) [.v 4] none
(.p (.p (.call 33)) [.v 6, .v 7] none
(.p (.wr 0 4) [.k (.agg [(.int .i64 0), (.int .u64 0), (.int .i64 0), (.int .u64 0)]), .v 8] none
(.p (.p (.fld 0 (some 4))) [.v 9] none
(.p (.p (.fld 0 (some 4))) [.v 3] none
(.p (.p (.fld 0 (some 4))) [.v 4] none
(.p (.p (.call 34)) [.v 11, .v 12] none
(.p (.p (.eqa true [.i .i64, .i .u64, .i .i64, .i .u64])) [.v 10, .v 13] none
(.p (.p (.fld 0 (some 4))) [.v 3] (some (14, false))
(.p (.p (.fld 0 (some 4))) [.v 4] (some (14, false))
(.p (.p (.call 35)) [.v 15, .v 16] (some (14, false))
(.p (.p (.fld 0 (some 4))) [.v 3] (some (14, false))
(.p (.p (.fld 0 (some 4))) [.v 4] (some (14, false))
(.p (.p (.call 36)) [.v 18, .v 19] (some (14, false))
(.p (.p (.eqb true)) [.v 17, .v 20] (some (14, false))
(.p (.p (.pick)) [.v 14, .k (.bool true), .v 21] none
(.p (.p (.fld 0 (some 2))) [.v 3] (some (22, false))
(.p (.p (.fld 2 (some 2))) [.v 4] (some (22, false))
(.p (.p (.call 21)) [.v 23, .v 24] (some (22, false))
(.p (.p (.fld 0 (some 2))) [.v 3] (some (22, false))
(.p (.p (.fld 2 (some 2))) [.v 4] (some (22, false))
(.p (.p (.call 37)) [.v 26, .v 27] (some (22, false))
(.p (.p (.eqa true [.i .i64, .i .u64])) [.v 25, .v 28] (some (22, false))
(.p (.p (.pick)) [.v 22, .k (.bool true), .v 29] none
(.p (.p (.fld 0 (some 2))) [.v 3] (some (30, false))
(.p (.p (.fld 2 (some 2))) [.v 4] (some (30, false))
(.p (.p (.call 22)) [.v 31, .v 32] (some (30, false))
(.p (.p (.fld 0 (some 2))) [.v 3] (some (30, false))
(.p (.p (.fld 2 (some 2))) [.v 4] (some (30, false))
(.p (.p (.call 38)) [.v 34, .v 35] (some (30, false))
(.p (.p (.eqa true [.i .i64, .i .u64])) [.v 33, .v 36] (some (30, false))
(.p (.p (.pick)) [.v 30, .k (.bool true), .v 37] none
(.ite (.v 38) (.ret [.k (.bool false)])
(.p (.p (.fld 0 (some 4))) [.v 9] none
(.p (.p (.fld 0 (some 4))) [.v 3] none
(.p (.p (.call 35)) [.v 39, .v 40] none
(.p (.p (.fld 0 (some 4))) [.v 9] (some (41, true))
(.p (.p (.fld 0 (some 4))) [.v 4] (some (41, true))
(.p (.p (.call 35)) [.v 42, .v 43] (some (41, true))
(.p (.p (.pick)) [.v 41, .v 44, .k (.bool false)] none
(.p (.p (.fld 0 (some 4))) [.v 5] (some (45, true))
(.p (.p (.fld 0 (some 4))) [.v 3] (some (45, true))
(.p (.p (.call 35)) [.v 46, .v 47] (some (45, true))
(.p (.p (.un .not)) [.v 48] (some (45, true))
(.p (.p (.mv)) [.v 49] (some (45, true))
(.p (.p (.fld 0 (some 4))) [.v 5] (some (50, false))
(.p (.p (.fld 0 (some 4))) [.v 4] (some (50, false))
(.p (.p (.call 35)) [.v 51, .v 52] (some (50, false))
(.p (.p (.un .not)) [.v 53] (some (50, false))
(.p (.p (.pick)) [.v 50, .k (.bool true), .v 54] (some (45, true))
(.p (.p (.mv)) [.v 55] (some (45, true))
(.p (.p (.fld 0 (some 4))) [.v 5] (some (56, false))
(.p (.p (.fld 0 (some 4))) [.v 9] (some (56, false))
(.p (.p (.call 35)) [.v 57, .v 58] (some (56, false))
(.p (.p (.pick)) [.v 56, .k (.bool true), .v 59] (some (45, true))
(.p (.p (.pick)) [.v 45, .v 60, .k (.bool false)] none
(.p (.p (.call 16)) [] (some (61, true))
(.p (.p (.pick)) [.v 61, .v 62, .k (.bool false)] none
(.ret [.v 63])))))))))))))))))))))))))))))))))))))))))))))))))))))))))))))))
def H9 : List (Nat × Nat) := [(46, 6), (44, 5), (41, 6), (39, 5), (33, 6), (31, 5), (28, 6), (26, 5), (7, 9), (5, 7), (4, 6), (3, 5)]
/-- accesscontrol accesscontrollaw05.LevelShortest -/
def T10 : T :=
(.p .box [.v 0] none
(.p .box [.v 1] none
(.p (.p (.fld 0 (some 2))) [.v 3] none
(.p (.p (.call 23)) [.v 4] none
(.p (.p (.un .not)) [.v 5] none
(.ite (.v 6) (.p (.p (.call 16)) [] none
(.ret [.v 7]))
(.p (.p (.fld 0 (some 4))) [.v 2] none
(.p (.p (.fld 0 none)) [.v 3] none
(.p (.p (.fld 1 none)) [.v 3] none
(.p (.p (.call 39)) [.v 7, .v 8, .v 9] none
(.p (.p (.ext 0)) [.v 10] none
(.p (.p (.ext 1)) [.v 10] none
(.p (.wr 0 4) [.k (.agg [(.str []), .nils, (.str []), .nils]), .v 11] none
(.p (.p (.fld 0 (some 4))) [.v 2] none
(.p (.p (.fld 0 none)) [.v 3] none
(.p (.p (.fld 1 none)) [.v 3] none
(.p (.p (.call 40)) [.v 14, .v 15, .v 16] none
(.p (.p (.ext 0)) [.v 17] none
(.p (.p (.ext 1)) [.v 17] none
(.p (.wr 0 4) [.k (.agg [(.str []), .nils, (.str []), .nils]), .v 18] none
(.p (.p (.fld 0 (some 4))) [.v 13] none
(.p (.p (.fld 0 (some 4))) [.v 20] none
(.p (.p (.call 41)) [.v 21, .v 22] none
(.p (.p (.mv)) [.v 12] (some (23, true))
(.p (.p (.mv)) [.v 19] (some (23, true))
(.p (.p (.bin .eql)) [.v 24, .v 25] (some (23, true))
(.p (.p (.pick)) [.v 23, .v 26, .k (.bool false)] none
(.p (.p (.call 16)) [] (some (27, true))
(.p (.p (.pick)) [.v 27, .v 28, .k (.bool false)] none
(.ret [.v 29]))))))))))))))))))))))))))))))
def H10 : List (Nat × Nat) := [(7, 9), (26, 5), (24, 5), (5, 7), (17, 5), (15, 5), (3, 5), (2, 4)]
/-- accesscontrol accesscontrollaw05.LevelRoundTrip -/
def T11 : T :=
(.p .box [.v 0] none
(.p .box [.v 1] none
(.p (.p (.fld 0 (some 2))) [.v 3] none
(.p (.p (.call 23)) [.v 4] none
(.p (.p (.un .not)) [.v 5] none
(.ite (.v 6) (.p (.p (.call 16)) [] none
(.ret [.v 7]))
(.p (.p (.fld 0 (some 4))) [.v 2] none
(.p (.p (.fld 0 none)) [.v 3] none
(.p (.p (.fld 1 none)) [.v 3] none
(.p (.p (.call 24)) [.v 7, .v 8, .v 9] none
(.p (.p (.ext 0)) [.v 10] none
(.p (.p (.ext 1)) [.v 10] none
(.p (.p (.fld 0 (some 4))) [.v 2] none
(.p (.p (.fld 0 none)) [.v 3] none
(.p (.p (.fld 1 none)) [.v 3] none
(.p (.p (.call 39)) [.v 13, .v 14, .v 15] none
(.p (.p (.ext 0)) [.v 16] none
(.p (.p (.ext 1)) [.v 16] none
(.p (.wr 0 4) [.k (.agg [(.str []), .nils, (.str []), .nils]), .v 17] none
(.p (.p (.bin .neq)) [.v 12, .v 18] none
(.ite (.v 20) (.ret [.k (.bool false)])
(.p (.p (.bin .neq)) [.v 12, .k (.int .i64 0)] none
(.ite (.v 21) (.p (.p (.bin .eql)) [.v 11, .k (.str [])] none
(.p (.p (.call 16)) [] (some (22, true))
(.p (.p (.pick)) [.v 22, .v 23, .k (.bool false)] none
(.ret [.v 24]))))
(.p (.p (.fld 0 none)) [.v 3] none
(.p (.p (.fld 1 none)) [.v 3] none
(.p (.p (.call 26)) [.v 11, .v 22, .v 23] none
(.p (.p (.ext 0)) [.v 24] none
(.p (.p (.ext 1)) [.v 24] none
(.p (.wr 0 4) [.k (.agg [(.int .i64 0), (.int .u64 0), (.int .i64 0), (.int .u64 0)]), .v 25] none
(.p (.p (.fld 0 (some 4))) [.v 19] none
(.p (.p (.fld 0 none)) [.v 3] none
(.p (.p (.fld 1 none)) [.v 3] none
(.p (.p (.call 31)) [.v 28, .v 29, .v 30] none
(.p (.p (.ext 0)) [.v 31] none
(.p (.p (.ext 1)) [.v 31] none
(.p (.wr 0 4) [.k (.agg [(.int .i64 0), (.int .u64 0), (.int .i64 0), (.int .u64 0)]), .v 32] none
(.p (.p (.fld 0 (some 4))) [.v 27] none
(.p (.p (.fld 0 (some 4))) [.v 2] none
(.p (.p (.eqa false [.i .i64, .i .u64, .i .i64, .i .u64])) [.v 35, .v 36] none
(.p (.p (.fld 0 (some 4))) [.v 34] (some (37, true))
(.p (.p (.fld 0 (some 4))) [.v 2] (some (37, true))
(.p (.p (.eqa false [.i .i64, .i .u64, .i .i64, .i .u64])) [.v 38, .v 39] (some (37, true))
(.p (.p (.pick)) [.v 37, .v 40, .k (.bool false)] none
(.p (.p (.mv)) [.v 26] (some (41, true))
(.p (.p (.bin .eql)) [.v 42, .k (.int .i64 0)] (some (41, true))
(.p (.p (.pick)) [.v 41, .v 43, .k (.bool false)] none
(.p (.p (.mv)) [.v 33] (some (44, true))
(.p (.p (.bin .eql)) [.v 45, .k (.int .i64 0)] (some (44, true))
(.p (.p (.pick)) [.v 44, .v 46, .k (.bool false)] none
(.p (.p (.call 16)) [] (some (47, true))
(.p (.p (.pick)) [.v 47, .v 48, .k (.bool false)] none
(.ret [.v 49]))))))))))))))))))))))))))))))))))))))))))))))))))))
def H11 : List (Nat × Nat) := [(11, 13), (58, 5), (56, 5), (9, 11), (49, 5), (47, 5), (7, 9), (30, 5), (28, 5), (21, 5), (19, 5), (3, 5), (2, 4)]
/-- accesscontrol level.Check -/
def T12 : T :=
(.p .box [.v 0] none
(.p (.p (.fld 0 none)) [.v 3] none
(.p (.p (.bin .lss)) [.v 4, .k (.int .i64 0)] none
(.p (.p (.fld 0 none)) [.v 3] (some (5, false))
(.p (.p (.mv)) [.v 1] (some (5, false))
(.p (.p (.bin .geq)) [.v 6, .v 7] (some (5, false))
(.p (.p (.pick)) [.v 5, .k (.bool true), .v 8] none
(.ite (.v 9) (.ret [.k (.bool false)])
(.p (.p (.bin .geq)) [.v 2, .k (.int .i64 64)] none
(.ite (.v 10) (.ret [.k (.bool true)])
(.p (.p (.fld 1 none)) [.v 3] none
(.p (.p (.mx)) [.v 2, .k (.int .i64 0)] none
(.p (.p (.bin .shr)) [.v 11, .v 12] none
(.p (.p (.bin .eql)) [.v 13, .k (.int .u64 0)] none
(.ret [.v 14])))))))))))))))
def H12 : List (Nat × Nat) := [(18, 5), (11, 5), (7, 5), (3, 5)]
/-- accesscontrol accesscontrolref05.Check -/
def T13 : T :=
(.p .box [.v 0] none
(.loop 0 [.k (.int .i64 0), .k (.bool false)] (.p (.p (.bin .lss)) [.v 4, .k (.int .i64 64)] none
(.ite (.v 6) (.p (.p (.fld 0 (some 2))) [.v 3] none
(.p (.p (.call 42)) [.v 7, .v 4] none
(.p (.p (.mv)) [.v 4] (some (8, true))
(.p (.p (.mv)) [.v 2] (some (8, true))
(.p (.p (.bin .geq)) [.v 9, .v 10] (some (8, true))
(.p (.p (.pick)) [.v 8, .v 11, .k (.bool false)] none
(.ite (.v 12) (.ret [.k (.bool false)])
(.p (.p (.bin .add)) [.v 4, .k (.int .i64 1)] none
(.next 0 [.v 13, .v 5])))))))))
(.p (.p (.fld 0 none)) [.v 3] none
(.p (.p (.bin .geq)) [.v 7, .k (.int .i64 0)] none
(.p (.p (.fld 0 none)) [.v 3] (some (8, true))
(.p (.p (.mv)) [.v 1] (some (8, true))
(.p (.p (.bin .lss)) [.v 9, .v 10] (some (8, true))
(.p (.p (.pick)) [.v 8, .v 11, .k (.bool false)] none
(.ret [.v 12])))))))))))
def H13 : List (Nat × Nat) := [(24, 5), (20, 5), (3, 5)]
/-- accesscontrol level.CheckRange -/
def T14 : T :=
(.p .box [.v 0] none
(.p (.p (.fld 0 (some 2))) [.v 3] none
(.p (.p (.call 12)) [.v 4, .v 1, .v 2] none
(.p (.p (.fld 2 (some 2))) [.v 3] (some (5, true))
(.p (.p (.mv)) [.v 1] (some (5, true))
(.p (.p (.mv)) [.v 2] (some (5, true))
(.p (.p (.call 12)) [.v 6, .v 7, .v 8] (some (5, true))
(.p (.p (.pick)) [.v 5, .v 9, .k (.bool false)] none
(.p (.p (.fld 2 (some 2))) [.v 3] (some (10, true))
(.p (.p (.fld 0 (some 2))) [.v 3] (some (10, true))
(.p (.p (.call 17)) [.v 11, .v 12] (some (10, true))
(.p (.p (.pick)) [.v 10, .v 13, .k (.bool false)] none
(.ret [.v 14])))))))))))))
def H14 : List (Nat × Nat) := [(22, 5), (20, 5), (13, 5), (7, 5), (3, 5)]
/-- accesscontrol accesscontrolref05.CheckRange -/
def T15 : T :=
(.p .box [.v 0] none
(.p (.p (.fld 0 (some 2))) [.v 3] none
(.p (.p (.call 13)) [.v 4, .v 1, .v 2] none
(.p (.p (.fld 2 (some 2))) [.v 3] (some (5, true))
(.p (.p (.mv)) [.v 1] (some (5, true))
(.p (.p (.mv)) [.v 2] (some (5, true))
(.p (.p (.call 13)) [.v 6, .v 7, .v 8] (some (5, true))
(.p (.p (.pick)) [.v 5, .v 9, .k (.bool false)] none
(.p (.p (.fld 2 (some 2))) [.v 3] (some (10, true))
(.p (.p (.fld 0 (some 2))) [.v 3] (some (10, true))
(.p (.p (.call 19)) [.v 11, .v 12] (some (10, true))
(.p (.p (.pick)) [.v 10, .v 13, .k (.bool false)] none
(.ret [.v 14])))))))))))))
def H15 : List (Nat × Nat) := [(22, 5), (20, 5), (13, 5), (7, 5), (3, 5)]
/-- accesscontrol accesscontrollaw05.awake -/
def T16 : T :=
(.p (.p (.bslice false 1)) [.k (.str [115, 48]), .k (.str [115, 49])] none
(.p (.p (.bslice false 1)) [.k (.str [99, 48]), .k (.str [99, 49]), .k (.str [99, 50]), .k (.str [99, 51]), .k (.str [99, 52]), .k (.str [99, 53])] none
(.p (.p (.build [(.int .i64 0), (.int .u64 0)] [(1, 1)])) [.k (.int .u64 2)] none
(.p (.p (.build [(.int .i64 0), (.int .u64 0)] [(0, 1), (1, 1)])) [.k (.int .i64 1), .k (.int .u64 23)] none
(.p (.p (.build [(.int .i64 0), (.int .u64 0), (.int .i64 0), (.int .u64 0)] [(0, 2), (2, 2)])) [.v 2, .v 3] none
(.p (.wr 0 4) [.k (.agg [(.int .i64 0), (.int .u64 0), (.int .i64 0), (.int .u64 0)]), .v 4] none
(.p (.p (.fld 0 (some 4))) [.v 5] none
(.p (.p (.call 24)) [.v 6, .v 0, .v 1] none
(.p (.p (.ext 0)) [.v 7] none
(.p (.p (.ext 1)) [.v 7] none
(.p (.p (.call 26)) [.k (.str [115, 49, 58, 99, 51, 46, 99, 52, 44, 99, 48, 44, 99, 49]), .v 0, .v 1] none
(.p (.p (.ext 0)) [.v 10] none
(.p (.p (.ext 1)) [.v 10] none
(.p (.wr 0 4) [.k (.agg [(.int .i64 0), (.int .u64 0), (.int .i64 0), (.int .u64 0)]), .v 11] none
(.p (.p (.call 26)) [.k (.str [115, 48, 58, 99, 50, 46, 99, 49]), .v 0, .v 1] none
(.p (.p (.ext 0)) [.v 14] none
(.p (.p (.ext 1)) [.v 14] none
(.p (.wr 0 4) [.k (.agg [(.int .i64 0), (.int .u64 0), (.int .i64 0), (.int .u64 0)]), .v 15] none
(.p (.p (.call 26)) [.k (.str [115, 48, 58]), .v 0, .v 1] none
(.p (.p (.ext 0)) [.v 18] none
(.p (.p (.ext 1)) [.v 18] none
(.p (.wr 0 4) [.k (.agg [(.int .i64 0), (.int .u64 0), (.int .i64 0), (.int .u64 0)]), .v 19] none
(.p (.p (.build [(.int .i64 0), (.int .u64 0)] [(1, 1)])) [.k (.int .u64 2)] none
(.p (.p (.build [(.int .i64 0), (.int .u64 0)] [(0, 1), (1, 1)])) [.k (.int .i64 1), .k (.int .u64 1)] none
(.p (.wr 0 2) [.k (.agg [(.int .i64 0), (.int .u64 0)]), .v 22] none
(.p (.wr 0 2) [.k (.agg [(.int .i64 0), (.int .u64 0)]), .v 23] none
(.p (.p (.bin .eql)) [.v 8, .k (.str [115, 48, 58, 99, 49, 45, 115, 49, 58, 99, 48, 46, 99, 50, 44, 99, 52])] none
(.p (.p (.mv)) [.v 9] (some (26, true))
(.p (.p (.bin .eql)) [.v 27, .k (.int .i64 0)] (some (26, true))
(.p (.p (.pick)) [.v 26, .v 28, .k (.bool false)] none
(.p (.p (.fld 0 (some 4))) [.v 13] (some (29, true))
(.p (.p (.build [(.int .i64 0), (.int .u64 0)] [(0, 1), (1, 1)])) [.k (.int .i64 1), .k (.int .u64 27)] (some (29, true))
(.p (.p (.build [(.int .i64 0), (.int .u64 0)] [(0, 1), (1, 1)])) [.k (.int .i64 1), .k (.int .u64 27)] (some (29, true))
(.p (.p (.build [(.int .i64 0), (.int .u64 0), (.int .i64 0), (.int .u64 0)] [(0, 2), (2, 2)])) [.v 31, .v 32] (some (29, true))
(.p (.p (.eqa false [.i .i64, .i .u64, .i .i64, .i .u64])) [.v 30, .v 33] (some (29, true))
(.p (.p (.pick)) [.v 29, .v 34, .k (.bool false)] none
(.p (.p (.mv)) [.v 12] (some (35, true))
(.p (.p (.bin .eql)) [.v 36, .k (.int .i64 0)] (some (35, true))
(.p (.p (.pick)) [.v 35, .v 37, .k (.bool false)] none
(.p (.p (.mv)) [.v 16] (some (38, true))
(.p (.p (.bin .eql)) [.v 39, .k (.int .i64 18)] (some (38, true))
(.p (.p (.pick)) [.v 38, .v 40, .k (.bool false)] none
(.p (.p (.mv)) [.v 20] (some (41, true))
(.p (.p (.bin .eql)) [.v 42, .k (.int .i64 9)] (some (41, true))
(.p (.p (.pick)) [.v 41, .v 43, .k (.bool false)] none
(.p (.p (.fld 0 (some 2))) [.v 24] (some (44, true))
(.p (.p (.fld 0 (some 2))) [.v 25] (some (44, true))
(.p (.p (.call 18)) [.v 45, .v 46] (some (44, true))
(.p (.p (.bin .eql)) [.v 47, .k (.int .i64 4)] (some (44, true))
(.p (.p (.pick)) [.v 44, .v 48, .k (.bool false)] none
(.p (.p (.fld 0 (some 2))) [.v 24] (some (49, true))
(.p (.p (.fld 0 (some 2))) [.v 25] (some (49, true))
(.p (.p (.call 21)) [.v 50, .v 51] (some (49, true))
(.p (.p (.build [(.int .i64 0), (.int .u64 0)] [(0, 1), (1, 1)])) [.k (.int .i64 1), .k (.int .u64 3)] (some (49, true))
(.p (.p (.eqa false [.i .i64, .i .u64])) [.v 52, .v 53] (some (49, true))
(.p (.p (.pick)) [.v 49, .v 54, .k (.bool false)] none
(.p (.p (.fld 0 (some 2))) [.v 24] (some (55, true))
(.p (.p (.fld 0 (some 2))) [.v 25] (some (55, true))
(.p (.p (.call 22)) [.v 56, .v 57] (some (55, true))
(.p (.p (.build [(.int .i64 0), (.int .u64 0)] [])) [] (some (55, true))
(.p (.p (.eqa false [.i .i64, .i .u64])) [.v 58, .v 59] (some (55, true))
(.p (.p (.pick)) [.v 55, .v 60, .k (.bool false)] none
(.p (.p (.fld 0 (some 4))) [.v 5] (some (61, true))
(.p (.p (.call 14)) [.v 62, .k (.int .i64 2), .k (.int .i64 6)] (some (61, true))
(.p (.p (.pick)) [.v 61, .v 63, .k (.bool false)] none
(.p (.p (.fld 0 (some 2))) [.v 24] (some (64, true))
(.p (.p (.call 12)) [.v 65, .k (.int .i64 2), .k (.int .i64 1)] (some (64, true))
(.p (.p (.un .not)) [.v 66] (some (64, true))
(.p (.p (.pick)) [.v 64, .v 67, .k (.bool false)] none
(.ret [.v 68]))))))))))))))))))))))))))))))))))))))))))))))))))))))))))))))))))))))
def H16 : List (Nat × Nat) := [(13, 15), (12, 14), (10, 12), (8, 10), (6, 8), (3, 5)]
/-- accesscontrol level.Dominates -/
def T17 : T :=
(.p .box [.v 0] none
(.p .box [.v 1] none
(.p (.p (.fld 0 none)) [.v 2] none
(.p (.p (.fld 0 none)) [.v 3] none
(.p (.p (.bin .geq)) [.v 4, .v 5] none
(.p (.p (.fld 1 none)) [.v 2] (some (6, true))
(.p (.p (.fld 1 none)) [.v 3] (some (6, true))
(.p (.p (.bin .and)) [.v 7, .v 8] (some (6, true))
(.p (.p (.fld 1 none)) [.v 3] (some (6, true))
(.p (.p (.bin .eql)) [.v 9, .v 10] (some (6, true))
(.p (.p (.pick)) [.v 6, .v 11, .k (.bool false)] none
(.ret [.v 12]))))))))))))
def H17 : List (Nat × Nat) := [(16, 5), (13, 5), (11, 4), (7, 5), (5, 4), (3, 5), (2, 4)]
/-- accesscontrol level.Relation -/
def T18 : T :=
(.p .box [.v 0] none
(.p .box [.v 1] none
(.p (.p (.fld 0 (some 2))) [.v 2] none
(.p (.p (.fld 0 (some 2))) [.v 3] none
(.p (.p (.eqa false [.i .i64, .i .u64])) [.v 4, .v 5] none
(.ite (.v 6) (.ret [.k (.int .i64 0)])
(.p (.p (.fld 0 (some 2))) [.v 2] none
(.p (.p (.fld 0 (some 2))) [.v 3] none
(.p (.p (.call 17)) [.v 7, .v 8] none
(.ite (.v 9) (.ret [.k (.int .i64 2)])
(.p (.p (.fld 0 (some 2))) [.v 3] none
(.p (.p (.fld 0 (some 2))) [.v 2] none
(.p (.p (.call 17)) [.v 10, .v 11] none
(.ite (.v 12) (.ret [.k (.int .i64 3)])
(.ret [.k (.int .i64 4)])))))))))))))))
def H18 : List (Nat × Nat) := [(3, 5), (2, 4)]
/-- accesscontrol accesscontrolref05.Dominates -/
def T19 : T :=
(.p .box [.v 0] none
(.p .box [.v 1] none
(.loop 0 [.k (.int .i64 0), .k (.bool false)] (.p (.p (.bin .lss)) [.v 4, .k (.int .i64 64)] none
(.ite (.v 6) (.p (.p (.fld 0 (some 2))) [.v 3] none
(.p (.p (.call 42)) [.v 7, .v 4] none
(.p (.p (.fld 0 (some 2))) [.v 2] (some (8, true))
(.p (.p (.mv)) [.v 4] (some (8, true))
(.p (.p (.call 42)) [.v 9, .v 10] (some (8, true))
(.p (.p (.un .not)) [.v 11] (some (8, true))
(.p (.p (.pick)) [.v 8, .v 12, .k (.bool false)] none
(.ite (.v 13) (.ret [.k (.bool false)])
(.p (.p (.bin .add)) [.v 4, .k (.int .i64 1)] none
(.next 0 [.v 14, .v 5]))))))))))
(.p (.p (.fld 0 none)) [.v 2] none
(.p (.p (.fld 0 none)) [.v 3] none
(.p (.p (.bin .geq)) [.v 7, .v 8] none
(.ret [.v 9])))))))))
def H19 : List (Nat × Nat) := [(21, 5), (19, 4), (3, 5), (2, 4)]
/-- accesscontrol accesscontrolref05.Relation -/
def T20 : T :=
(.p .box [.v 0] none
(.p .box [.v 1] none
(.p (.p (.fld 0 (some 2))) [.v 2] none
(.p (.p (.fld 0 (some 2))) [.v 3] none
(.p (.p (.eqa false [.i .i64, .i .u64])) [.v 4, .v 5] none
(.ite (.v 6) (.ret [.k (.int .i64 0)])
(.p (.p (.fld 0 (some 2))) [.v 2] none
(.p (.p (.fld 0 (some 2))) [.v 3] none
(.p (.p (.call 19)) [.v 7, .v 8] none
(.ite (.v 9) (.ret [.k (.int .i64 2)])
(.p (.p (.fld 0 (some 2))) [.v 3] none
(.p (.p (.fld 0 (some 2))) [.v 2] none
(.p (.p (.call 19)) [.v 10, .v 11] none
(.ite (.v 12) (.ret [.k (.int .i64 3)])
(.ret [.k (.int .i64 4)])))))))))))))))
def H20 : List (Nat × Nat) := [(3, 5), (2, 4)]
/-- accesscontrol level.Join -/
def T21 : T :=
(.p .box [.v 0] none
(.p .box [.v 1] none
(.p (.p (.fld 0 none)) [.v 2] none
(.p (.p (.fld 0 none)) [.v 3] none
(.p (.p (.mx)) [.v 4, .v 5] none
(.p (.p (.fld 1 none)) [.v 2] none
(.p (.p (.fld 1 none)) [.v 3] none
(.p (.p (.bin .or)) [.v 7, .v 8] none
(.p (.p (.build [(.int .i64 0), (.int .u64 0)] [(0, 1), (1, 1)])) [.v 6, .v 9] none
(.p (.wr 0 2) [.k (.agg [(.int .i64 0), (.int .u64 0)]), .v 10] none
(.p (.p (.fld 0 (some 2))) [.v 11] none
(.ret [.v 12]))))))))))))
def H21 : List (Nat × Nat) := [(12, 5), (10, 4), (7, 5), (5, 4), (4, 6), (3, 5), (2, 4)]
/-- accesscontrol level.Meet -/
def T22 : T :=
(.p .box [.v 0] none
(.p .box [.v 1] none
(.p (.p (.fld 0 none)) [.v 2] none
(.p (.p (.fld 0 none)) [.v 3] none
(.p (.p (.mn)) [.v 4, .v 5] none
(.p (.p (.fld 1 none)) [.v 2] none
(.p (.p (.fld 1 none)) [.v 3] none
(.p (.p (.bin .and)) [.v 7, .v 8] none
(.p (.p (.build [(.int .i64 0), (.int .u64 0)] [(0, 1), (1, 1)])) [.v 6, .v 9] none
(.p (.wr 0 2) [.k (.agg [(.int .i64 0), (.int .u64 0)]), .v 10] none
(.p (.p (.fld 0 (some 2))) [.v 11] none
(.ret [.v 12]))))))))))))
def H22 : List (Nat × Nat) := [(12, 5), (10, 4), (7, 5), (5, 4), (4, 6), (3, 5), (2, 4)]
/-- accesscontrol accesscontrollaw05.few -/
def T23 : T :=
(.p .box [.v 0] none
(.p (.p (.fld 0 none)) [.v 1] none
(.p (.p (.lenSl)) [.v 2] none
(.p (.p (.bin .gtr)) [.v 3, .k (.int .i64 100)] none
(.p (.p (.fld 1 none)) [.v 1] (some (4, false))
(.p (.p (.lenSl)) [.v 5] (some (4, false))
(.p (.p (.bin .gtr)) [.v 6, .k (.int .i64 100)] (some (4, false))
(.p (.p (.pick)) [.v 4, .k (.bool true), .v 7] none
(.ite (.v 8) (.ret [.k (.bool false)])
(.loop 0 [.k (.int .i64 0), .k (.bool false)] (.p (.p (.fld 0 none)) [.v 1] none
(.p (.p (.lenSl)) [.v 11] none
(.p (.p (.bin .lss)) [.v 9, .v 12] none
(.ite (.v 13) (.p (.p (.fld 0 none)) [.v 1] none
(.p (.p (.idxS 1)) [.v 14, .v 9] none
(.p (.p (.ldE none)) [.v 15] none
(.p (.p (.lenStr)) [.v 16] none
(.p (.p (.bin .gtr)) [.v 17, .k (.int .i64 100)] none
(.ite (.v 18) (.ret [.k (.bool false)])
(.p (.p (.bin .add)) [.v 9, .k (.int .i64 1)] none
(.next 0 [.v 19, .v 10]))))))))
(.loop 1 [.k (.int .i64 0), .v 10] (.p (.p (.fld 1 none)) [.v 1] none
(.p (.p (.lenSl)) [.v 16] none
(.p (.p (.bin .lss)) [.v 14, .v 17] none
(.ite (.v 18) (.p (.p (.fld 1 none)) [.v 1] none
(.p (.p (.idxS 1)) [.v 19, .v 14] none
(.p (.p (.ldE none)) [.v 20] none
(.p (.p (.lenStr)) [.v 21] none
(.p (.p (.bin .gtr)) [.v 22, .k (.int .i64 100)] none
(.ite (.v 23) (.ret [.k (.bool false)])
(.p (.p (.bin .add)) [.v 14, .k (.int .i64 1)] none
(.next 1 [.v 24, .v 15]))))))))
(.ret [.k (.bool true)]))))))))))))))))))))
def H23 : List (Nat × Nat) := [(39, 1), (36, 3), (30, 3), (25, 1), (22, 3), (16, 3), (10, 3), (5, 3), (1, 3)]
/-- accesscontrol level.Text -/
def T24 : T :=
(.p .box [.v 0] none
(.p (.p (.fld 0 (some 4))) [.v 3] none
(.p (.p (.call 43)) [.v 4, .v 1, .v 2] none
(.p (.p (.bin .neq)) [.v 5, .k (.int .i64 0)] none
(.ite (.v 6) (.ret [.k (.str []), .v 5])
(.p (.p (.fld 0 (some 2))) [.v 3] none
(.p (.p (.call 44)) [.v 7, .v 1, .v 2] none
(.p (.p (.fld 0 (some 2))) [.v 3] none
(.p (.p (.fld 2 (some 2))) [.v 3] none
(.p (.p (.eqa false [.i .i64, .i .u64])) [.v 9, .v 10] none
(.ite (.v 11) (.ret [.v 8, .k (.int .i64 0)])
(.p (.p (.bin .add)) [.v 8, .k (.str [45])] none
(.p (.p (.fld 2 (some 2))) [.v 3] none
(.p (.p (.call 44)) [.v 13, .v 1, .v 2] none
(.p (.p (.bin .add)) [.v 12, .v 14] none
(.ret [.v 15, .k (.int .i64 0)]))))))))))))))))
def H24 : List (Nat × Nat) := [(30, 5), (24, 5), (22, 5), (17, 5), (3, 5)]
/-- accesscontrol accesscontrolref05.Text -/
def T25 : T :=
(.p .box [.v 0] none
(.p (.p (.fld 0 (some 4))) [.v 3] none
(.p (.p (.call 40)) [.v 4, .v 1, .v 2] none
(.p (.p (.ext 0)) [.v 5] none
(.p (.p (.ext 1)) [.v 5] none
(.p (.wr 0 4) [.k (.agg [(.str []), .nils, (.str []), .nils]), .v 6] none
(.p (.p (.bin .neq)) [.v 7, .k (.int .i64 0)] none
(.ite (.v 9) (.ret [.k (.str []), .v 7])
(.p (.p (.fld 0 (some 2))) [.v 8] none
(.p (.p (.call 45)) [.v 10] none
(.p (.p (.fld 2 none)) [.v 8] none
(.p (.p (.bin .neq)) [.v 12, .k (.str [])] none
(.ite (.v 13) (.p (.p (.bin .add)) [.v 11, .k (.str [45])] none
(.p (.p (.fld 2 (some 2))) [.v 8] none
(.p (.p (.call 45)) [.v 15] none
(.p (.p (.bin .add)) [.v 14, .v 16] none
(.ret [.v 17, .k (.int .i64 0)])))))
(.ret [.v 11, .k (.int .i64 0)]))))))))))))))
def H25 : List (Nat × Nat) := [(30, 10), (25, 10), (24, 10), (21, 10), (8, 10), (3, 5)]
/-- accesscontrol level.Parse -/
def T26 : T :=
(.p (.p (.call 46)) [.v 1, .v 2] none
(.p (.p (.un .not)) [.v 3] none
(.ite (.v 4) (.p (.p (.build [(.int .i64 0), (.int .u64 0), (.int .i64 0), (.int .u64 0)] [])) [] none
(.p (.wr 0 4) [.k (.agg [(.int .i64 0), (.int .u64 0), (.int .i64 0), (.int .u64 0)]), .v 5] none
(.p (.p (.fld 0 (some 4))) [.v 6] none
(.ret [.v 7, .k (.int .i64 2)]))))
(.p (.p (.call 47)) [.v 0, .k (.str [45])] none
(.p (.p (.ext 0)) [.v 5] none
(.p (.p (.ext 1)) [.v 5] none
(.p (.p (.ext 2)) [.v 5] none
(.p (.p (.call 48)) [.v 6] none
(.p (.p (.ext 0)) [.v 9] none
(.p (.p (.ext 1)) [.v 9] none
(.p (.wr 0 2) [.k (.agg [(.str []), .nils, (.str []), .nils]), .v 10] none
(.p (.p (.un .not)) [.v 11] none
(.ite (.v 13) (.p (.p (.build [(.int .i64 0), (.int .u64 0), (.int .i64 0), (.int .u64 0)] [])) [] none
(.p (.wr 0 4) [.k (.agg [(.int .i64 0), (.int .u64 0), (.int .i64 0), (.int .u64 0)]), .v 14] none
(.p (.p (.fld 0 (some 4))) [.v 15] none
(.ret [.v 16, .k (.int .i64 9)]))))
(.join 0 4 (.ite (.v 8) (.p (.p (.call 48)) [.v 7] none
(.p (.p (.ext 0)) [.v 14] none
(.p (.p (.ext 1)) [.v 14] none
(.p (.wr 2 2) [.v 12, .v 15] none
(.p (.p (.un .not)) [.v 16] none
(.ite (.v 18) (.p (.p (.build [(.int .i64 0), (.int .u64 0), (.int .i64 0), (.int .u64 0)] [])) [] none
(.p (.wr 0 4) [.k (.agg [(.int .i64 0), (.int .u64 0), (.int .i64 0), (.int .u64 0)]), .v 19] none
(.p (.p (.fld 0 (some 4))) [.v 20] none
(.ret [.v 21, .k (.int .i64 9)]))))
(.next 0 [.v 16, .k (.int .i64 0), .v 17, .k (.agg [(.int .i64 0), (.int .u64 0), (.int .i64 0), (.int .u64 0)])])))))))
(.next 0 [.v 11, .k (.int .i64 0), .v 12, .k (.agg [(.int .i64 0), (.int .u64 0), (.int .i64 0), (.int .u64 0)])]))
(.p (.p (.fld 0 (some 4))) [.v 16] none
(.p (.p (.call 31)) [.v 18, .v 1, .v 2] none
(.p (.p (.ext 0)) [.v 19] none
(.p (.p (.ext 1)) [.v 19] none
(.p (.wr 0 4) [.v 17, .v 20] none
(.p (.p (.fld 0 (some 4))) [.v 22] none
(.ret [.v 23, .v 21])))))))))))))))))))))
def H26 : List (Nat × Nat) := [(39, 13), (29, 13), (11, 13), (6, 8)]
/-- accesscontrol accesscontrolref05.Parse -/
def T27 : T :=
(.p (.p (.call 49)) [.v 1, .v 2] none
(.p (.p (.un .not)) [.v 3] none
(.ite (.v 4) (.p (.p (.build [(.int .i64 0), (.int .u64 0), (.int .i64 0), (.int .u64 0)] [])) [] none
(.p (.wr 0 4) [.k (.agg [(.int .i64 0), (.int .u64 0), (.int .i64 0), (.int .u64 0)]), .v 5] none
(.p (.p (.fld 0 (some 4))) [.v 6] none
(.ret [.v 7, .k (.int .i64 2)]))))
(.p (.p (.call 50)) [.v 0] none
(.p (.p (.ext 0)) [.v 5] none
(.p (.p (.ext 1)) [.v 5] none
(.p (.wr 0 4) [.k (.agg [(.str []), .nils, (.str []), .nils]), .v 6] none
(.p (.p (.un .not)) [.v 7] none
(.ite (.v 9) (.p (.p (.build [(.int .i64 0), (.int .u64 0), (.int .i64 0), (.int .u64 0)] [])) [] none
(.p (.wr 0 4) [.k (.agg [(.int .i64 0), (.int .u64 0), (.int .i64 0), (.int .u64 0)]), .v 10] none
(.p (.p (.fld 0 (some 4))) [.v 11] none
(.ret [.v 12, .k (.int .i64 9)]))))
(.p (.p (.fld 0 (some 4))) [.v 8] none
(.p (.p (.call 32)) [.v 10, .v 1, .v 2] none
(.p (.p (.ext 0)) [.v 11] none
(.p (.p (.ext 1)) [.v 11] none
(.p (.wr 0 4) [.k (.agg [(.int .i64 0), (.int .u64 0), (.int .i64 0), (.int .u64 0)]), .v 12] none
(.p (.p (.fld 0 (some 4))) [.v 14] none
(.ret [.v 15, .v 13]))))))))))))))))
def H27 : List (Nat × Nat) := [(8, 10), (6, 8)]
/-- accesscontrol accesscontrollaw05.short -/
def T28 : T :=
(.p .box [.v 0] none
(.p (.p (.fld 1 none)) [.v 1] none
(.p (.p (.lenSl)) [.v 2] none
(.p (.p (.bin .leq)) [.v 3, .k (.int .i64 100)] none
(.ret [.v 4])))))
def H28 : List (Nat × Nat) := [(3, 3), (1, 3)]
/-- accesscontrol level.Level -/
def T29 : T :=
(.p .box [.v 0] none
(.p (.p (.call 46)) [.v 1, .v 2] none
(.p (.p (.un .not)) [.v 4] none
(.ite (.v 5) (.p (.p (.build [(.int .i64 0), (.int .u64 0)] [])) [] none
(.p (.wr 0 2) [.k (.agg [(.int .i64 0), (.int .u64 0)]), .v 6] none
(.p (.p (.fld 0 (some 2))) [.v 7] none
(.ret [.v 8, .k (.int .i64 2)]))))
(.p (.p (.fld 0 none)) [.v 3] none
(.p (.p (.call 51)) [.v 1, .v 6] none
(.p (.p (.bin .lss)) [.v 7, .k (.int .i64 0)] none
(.ite (.v 8) (.p (.p (.build [(.int .i64 0), (.int .u64 0)] [])) [] none
(.p (.wr 0 2) [.k (.agg [(.int .i64 0), (.int .u64 0)]), .v 9] none
(.p (.p (.fld 0 (some 2))) [.v 10] none
(.ret [.v 11, .k (.int .i64 11)]))))
(.p (.p (.build [(.int .i64 0), (.int .u64 0)] [(0, 1)])) [.v 7] none
(.p (.wr 0 2) [.k (.agg [(.int .i64 0), (.int .u64 0)]), .v 9] none
(.p (.p (.fld 1 none)) [.v 3] none
(.p (.p (.lenSl)) [.v 11] none
(.loop 0 [.k (.int .i64 0), .k (.int .i64 0), .v 10, .k (.agg [(.int .i64 0), (.int .u64 0)])] (.p (.p (.bin .lss)) [.v 13, .v 12] none
(.ite (.v 17) (.p (.p (.idxS 2)) [.v 11, .v 13] none
(.p (.p (.ldE (some 2))) [.v 18] none
(.p (.wr 0 2) [.k (.agg [(.str []), (.str [])]), .v 19] none
(.p (.p (.fld 0 none)) [.v 20] none
(.p (.p (.call 51)) [.v 2, .v 21] none
(.p (.p (.fld 1 none)) [.v 20] none
(.p (.p (.bin .neq)) [.v 23, .k (.str [])] none
(.join 1 1 (.ite (.v 24) (.p (.p (.fld 1 none)) [.v 20] none
(.p (.p (.call 51)) [.v 2, .v 25] none
(.next 1 [.v 26])))
(.next 1 [.v 22]))
(.p (.p (.bin .lss)) [.v 22, .k (.int .i64 0)] none
(.p (.p (.mv)) [.v 25] (some (26, false))
(.p (.p (.bin .lss)) [.v 27, .k (.int .i64 0)] (some (26, false))
(.p (.p (.pick)) [.v 26, .k (.bool true), .v 28] none
(.ite (.v 29) (.p (.p (.build [(.int .i64 0), (.int .u64 0)] [])) [] none
(.p (.wr 0 2) [.v 16, .v 30] none
(.p (.p (.fld 0 (some 2))) [.v 31] none
(.ret [.v 32, .k (.int .i64 11)]))))
(.p (.p (.bin .lss)) [.v 25, .v 22] none
(.ite (.v 30) (.p (.p (.build [(.int .i64 0), (.int .u64 0)] [])) [] none
(.p (.wr 0 2) [.v 16, .v 31] none
(.p (.p (.fld 0 (some 2))) [.v 32] none
(.ret [.v 33, .k (.int .i64 18)]))))
(.loop 1 [.v 22, .v 15] (.p (.p (.bin .leq)) [.v 31, .v 25] none
(.ite (.v 33) (.p (.p (.fld 1 none)) [.v 32] none
(.p (.p (.bin .shl)) [.k (.int .u64 1), .v 31] none
(.p (.p (.bin .or)) [.v 34, .v 35] none
(.p (.wr 1 1) [.v 32, .v 36] none
(.p (.p (.bin .add)) [.v 31, .k (.int .i64 1)] none
(.next 1 [.v 38, .v 37]))))))
(.p (.p (.bin .add)) [.v 13, .k (.int .i64 1)] none
(.next 0 [.v 34, .v 14, .v 32, .v 16]))))))))))))))))))))
(.p (.p (.fld 0 (some 2))) [.v 15] none
(.p (.wr 0 2) [.v 16, .v 18] none
(.p (.p (.fld 0 (some 2))) [.v 19] none
(.ret [.v 20, .k (.int .i64 0)])))))))))))))))))))
def H29 : List (Nat × Nat) := [(72, 11), (67, 11), (45, 13), (41, 13), (37, 13), (11, 13), (34, 1), (29, 5), (9, 11), (21, 5), (6, 8), (3, 5)]
/-- accesscontrol accesscontrolref05.Level -/
def T30 : T :=
(.p .box [.v 0] none
(.p (.p (.call 49)) [.v 1, .v 2] none
(.p (.p (.un .not)) [.v 4] none
(.ite (.v 5) (.p (.p (.build [(.int .i64 0), (.int .u64 0)] [])) [] none
(.p (.wr 0 2) [.k (.agg [(.int .i64 0), (.int .u64 0)]), .v 6] none
(.p (.p (.fld 0 (some 2))) [.v 7] none
(.ret [.v 8, .k (.int .i64 2)]))))
(.p (.p (.fld 0 none)) [.v 3] none
(.p (.p (.call 52)) [.v 1, .v 6] none
(.p (.p (.build [(.int .i64 0), (.int .u64 0)] [(0, 1)])) [.v 7] none
(.p (.wr 0 2) [.k (.agg [(.int .i64 0), (.int .u64 0)]), .v 8] none
(.p (.p (.fld 0 none)) [.v 9] none
(.p (.p (.bin .lss)) [.v 10, .k (.int .i64 0)] none
(.ite (.v 11) (.p (.p (.build [(.int .i64 0), (.int .u64 0)] [])) [] none
(.p (.wr 0 2) [.k (.agg [(.int .i64 0), (.int .u64 0)]), .v 12] none
(.p (.p (.fld 0 (some 2))) [.v 13] none
(.ret [.v 14, .k (.int .i64 11)]))))
(.loop 0 [.k (.int .i64 0), .k (.int .i64 0), .v 9, .k (.agg [(.int .i64 0), (.int .u64 0)])] (.p (.p (.fld 1 none)) [.v 3] none
(.p (.p (.lenSl)) [.v 16] none
(.p (.p (.bin .lss)) [.v 12, .v 17] none
(.ite (.v 18) (.p (.p (.fld 1 none)) [.v 3] none
(.p (.p (.idxS 2)) [.v 19, .v 12] none
(.p (.p (.off 0)) [.v 20] none
(.p (.p (.ldE none)) [.v 21] none
(.p (.p (.call 52)) [.v 2, .v 22] none
(.p (.p (.fld 1 none)) [.v 3] none
(.p (.p (.idxS 2)) [.v 24, .v 12] none
(.p (.p (.off 1)) [.v 25] none
(.p (.p (.ldE none)) [.v 26] none
(.p (.p (.bin .neq)) [.v 27, .k (.str [])] none
(.join 1 1 (.ite (.v 28) (.p (.p (.fld 1 none)) [.v 3] none
(.p (.p (.idxS 2)) [.v 29, .v 12] none
(.p (.p (.off 1)) [.v 30] none
(.p (.p (.ldE none)) [.v 31] none
(.p (.p (.call 52)) [.v 2, .v 32] none
(.next 1 [.v 33]))))))
(.next 1 [.v 23]))
(.p (.p (.bin .lss)) [.v 23, .k (.int .i64 0)] none
(.p (.p (.mv)) [.v 29] (some (30, false))
(.p (.p (.bin .lss)) [.v 31, .k (.int .i64 0)] (some (30, false))
(.p (.p (.pick)) [.v 30, .k (.bool true), .v 32] none
(.ite (.v 33) (.p (.p (.build [(.int .i64 0), (.int .u64 0)] [])) [] none
(.p (.wr 0 2) [.v 15, .v 34] none
(.p (.p (.fld 0 (some 2))) [.v 35] none
(.ret [.v 36, .k (.int .i64 11)]))))
(.p (.p (.bin .lss)) [.v 29, .v 23] none
(.ite (.v 34) (.p (.p (.build [(.int .i64 0), (.int .u64 0)] [])) [] none
(.p (.wr 0 2) [.v 15, .v 35] none
(.p (.p (.fld 0 (some 2))) [.v 36] none
(.ret [.v 37, .k (.int .i64 18)]))))
(.loop 1 [.v 23, .v 14] (.p (.p (.bin .leq)) [.v 35, .v 29] none
(.ite (.v 37) (.p (.p (.fld 1 none)) [.v 36] none
(.p (.p (.conv .u64)) [.v 35] none
(.p (.p (.bin .shl)) [.k (.int .u64 1), .v 39] none
(.p (.p (.bin .or)) [.v 38, .v 40] none
(.p (.wr 1 1) [.v 36, .v 41] none
(.p (.p (.bin .add)) [.v 35, .k (.int .i64 1)] none
(.next 1 [.v 43, .v 42])))))))
(.p (.p (.bin .add)) [.v 12, .k (.int .i64 1)] none
(.next 0 [.v 38, .v 13, .v 36, .v 15])))))))))))))))))))))))
(.p (.p (.fld 0 (some 2))) [.v 14] none
(.p (.wr 0 2) [.v 15, .v 19] none
(.p (.p (.fld 0 (some 2))) [.v 20] none
(.ret [.v 21, .k (.int .i64 0)]))))))))))))))))))))
def H30 : List (Nat × Nat) := [(81, 10), (75, 10), (55, 1), (54, 1), (51, 5), (47, 1), (46, 1), (43, 5), (39, 1), (38, 1), (35, 5), (28, 5), (23, 10), (8, 10), (19, 5), (6, 8), (3, 5)]
/-- accesscontrol level.Range -/
def T31 : T :=
(.p .box [.v 0] none
(.p (.p (.fld 0 (some 2))) [.v 3] none
(.p (.p (.call 29)) [.v 4, .v 1, .v 2] none
(.p (.p (.ext 0)) [.v 5] none
(.p (.p (.ext 1)) [.v 5] none
(.p (.wr 0 2) [.k (.agg [(.int .i64 0), (.int .u64 0)]), .v 6] none
(.p (.p (.bin .neq)) [.v 7, .k (.int .i64 0)] none
(.ite (.v 9) (.p (.p (.build [(.int .i64 0), (.int .u64 0), (.int .i64 0), (.int .u64 0)] [])) [] none
(.p (.wr 0 4) [.k (.agg [(.int .i64 0), (.int .u64 0), (.int .i64 0), (.int .u64 0)]), .v 10] none
(.p (.p (.fld 0 (some 4))) [.v 11] none
(.ret [.v 12, .v 7]))))
(.p (.p (.fld 2 none)) [.v 3] none
(.p (.p (.bin .eql)) [.v 10, .k (.str [])] none
(.p (.p (.fld 3 none)) [.v 3] (some (11, true))
(.p (.p (.lenSl)) [.v 12] (some (11, true))
(.p (.p (.bin .eql)) [.v 13, .k (.int .i64 0)] (some (11, true))
(.p (.p (.pick)) [.v 11, .v 14, .k (.bool false)] none
(.ite (.v 15) (.p (.p (.fld 0 (some 2))) [.v 8] none
(.p (.p (.fld 0 (some 2))) [.v 8] none
(.p (.p (.build [(.int .i64 0), (.int .u64 0), (.int .i64 0), (.int .u64 0)] [(0, 2), (2, 2)])) [.v 16, .v 17] none
(.p (.wr 0 4) [.k (.agg [(.int .i64 0), (.int .u64 0), (.int .i64 0), (.int .u64 0)]), .v 18] none
(.p (.p (.fld 0 (some 4))) [.v 19] none
(.ret [.v 20, .k (.int .i64 0)]))))))
(.p (.p (.fld 2 (some 2))) [.v 3] none
(.p (.p (.call 29)) [.v 16, .v 1, .v 2] none
(.p (.p (.ext 0)) [.v 17] none
(.p (.p (.ext 1)) [.v 17] none
(.p (.wr 0 2) [.k (.agg [(.int .i64 0), (.int .u64 0)]), .v 18] none
(.p (.p (.bin .neq)) [.v 19, .k (.int .i64 0)] none
(.ite (.v 21) (.p (.p (.build [(.int .i64 0), (.int .u64 0), (.int .i64 0), (.int .u64 0)] [])) [] none
(.p (.wr 0 4) [.k (.agg [(.int .i64 0), (.int .u64 0), (.int .i64 0), (.int .u64 0)]), .v 22] none
(.p (.p (.fld 0 (some 4))) [.v 23] none
(.ret [.v 24, .v 19]))))
(.p (.p (.fld 0 (some 2))) [.v 20] none
(.p (.p (.fld 0 (some 2))) [.v 8] none
(.p (.p (.call 17)) [.v 22, .v 23] none
(.p (.p (.un .not)) [.v 24] none
(.ite (.v 25) (.p (.p (.build [(.int .i64 0), (.int .u64 0), (.int .i64 0), (.int .u64 0)] [])) [] none
(.p (.wr 0 4) [.k (.agg [(.int .i64 0), (.int .u64 0), (.int .i64 0), (.int .u64 0)]), .v 26] none
(.p (.p (.fld 0 (some 4))) [.v 27] none
(.ret [.v 28, .k (.int .i64 18)]))))
(.p (.p (.fld 0 (some 2))) [.v 8] none
(.p (.p (.fld 0 (some 2))) [.v 20] none
(.p (.p (.build [(.int .i64 0), (.int .u64 0), (.int .i64 0), (.int .u64 0)] [(0, 2), (2, 2)])) [.v 26, .v 27] none
(.p (.wr 0 4) [.k (.agg [(.int .i64 0), (.int .u64 0), (.int .i64 0), (.int .u64 0)]), .v 28] none
(.p (.p (.fld 0 (some 4))) [.v 29] none
(.ret [.v 30, .k (.int .i64 0)])))))))))))))))))))))))))))))))))
def H31 : List (Nat × Nat) := [(10, 12), (38, 5), (29, 5), (28, 5), (24, 5), (23, 5), (8, 10), (12, 5), (6, 8), (3, 5)]
/-- accesscontrol accesscontrolref05.Range -/
def T32 : T :=
(.p .box [.v 0] none
(.p (.p (.fld 0 (some 2))) [.v 3] none
(.p (.p (.call 30)) [.v 4, .v 1, .v 2] none
(.p (.p (.ext 0)) [.v 5] none
(.p (.p (.ext 1)) [.v 5] none
(.p (.wr 0 2) [.k (.agg [(.int .i64 0), (.int .u64 0)]), .v 6] none
(.p (.p (.bin .neq)) [.v 7, .k (.int .i64 0)] none
(.ite (.v 9) (.p (.p (.build [(.int .i64 0), (.int .u64 0), (.int .i64 0), (.int .u64 0)] [])) [] none
(.p (.wr 0 4) [.k (.agg [(.int .i64 0), (.int .u64 0), (.int .i64 0), (.int .u64 0)]), .v 10] none
(.p (.p (.fld 0 (some 4))) [.v 11] none
(.ret [.v 12, .v 7]))))
(.p (.p (.fld 0 (some 2))) [.v 8] none
(.p (.wr 0 2) [.k (.agg [(.int .i64 0), (.int .u64 0)]), .v 10] none
(.p (.p (.fld 2 none)) [.v 3] none
(.p (.p (.bin .neq)) [.v 12, .k (.str [])] none
(.p (.p (.fld 3 none)) [.v 3] (some (13, false))
(.p (.p (.lenSl)) [.v 14] (some (13, false))
(.p (.p (.bin .gtr)) [.v 15, .k (.int .i64 0)] (some (13, false))
(.p (.p (.pick)) [.v 13, .k (.bool true), .v 16] none
(.join 0 2 (.ite (.v 17) (.p (.p (.fld 2 (some 2))) [.v 3] none
(.p (.p (.call 30)) [.v 18, .v 1, .v 2] none
(.p (.p (.ext 0)) [.v 19] none
(.p (.p (.ext 1)) [.v 19] none
(.p (.wr 0 2) [.v 11, .v 20] none
(.next 0 [.v 21, .v 22]))))))
(.next 0 [.v 7, .v 11]))
(.p (.p (.bin .neq)) [.v 18, .k (.int .i64 0)] none
(.ite (.v 20) (.p (.p (.build [(.int .i64 0), (.int .u64 0), (.int .i64 0), (.int .u64 0)] [])) [] none
(.p (.wr 0 4) [.k (.agg [(.int .i64 0), (.int .u64 0), (.int .i64 0), (.int .u64 0)]), .v 21] none
(.p (.p (.fld 0 (some 4))) [.v 22] none
(.ret [.v 23, .v 18]))))
(.p (.p (.fld 0 (some 2))) [.v 19] none
(.p (.p (.fld 0 (some 2))) [.v 8] none
(.p (.p (.call 19)) [.v 21, .v 22] none
(.p (.p (.un .not)) [.v 23] none
(.ite (.v 24) (.p (.p (.build [(.int .i64 0), (.int .u64 0), (.int .i64 0), (.int .u64 0)] [])) [] none
(.p (.wr 0 4) [.k (.agg [(.int .i64 0), (.int .u64 0), (.int .i64 0), (.int .u64 0)]), .v 25] none
(.p (.p (.fld 0 (some 4))) [.v 26] none
(.ret [.v 27, .k (.int .i64 18)]))))
(.p (.p (.fld 0 (some 2))) [.v 8] none
(.p (.p (.fld 0 (some 2))) [.v 19] none
(.p (.p (.build [(.int .i64 0), (.int .u64 0), (.int .i64 0), (.int .u64 0)] [(0, 2), (2, 2)])) [.v 25, .v 26] none
(.p (.wr 0 4) [.k (.agg [(.int .i64 0), (.int .u64 0), (.int .i64 0), (.int .u64 0)]), .v 27] none
(.p (.p (.fld 0 (some 4))) [.v 28] none
(.ret [.v 29, .k (.int .i64 0)]))))))))))))))))))))))))))))))
def H32 : List (Nat × Nat) := [(36, 5), (30, 5), (29, 5), (25, 5), (24, 5), (10, 12), (8, 10), (12, 5), (6, 8), (3, 5)]
/-- accesscontrol level.Span -/
def T33 : T :=
(.p .box [.v 0] none
(.p .box [.v 1] none
(.p (.p (.fld 0 (some 2))) [.v 2] none
(.p (.p (.fld 0 (some 2))) [.v 3] none
(.p (.p (.call 22)) [.v 4, .v 5] none
(.p (.p (.fld 2 (some 2))) [.v 2] none
(.p (.p (.fld 2 (some 2))) [.v 3] none
(.p (.p (.call 21)) [.v 7, .v 8] none
(.p (.p (.build [(.int .i64 0), (.int .u64 0), (.int .i64 0), (.int .u64 0)] [(0, 2), (2, 2)])) [.v 6, .v 9] none
(.p (.wr 0 4) [.k (.agg [(.int .i64 0), (.int .u64 0), (.int .i64 0), (.int .u64 0)]), .v 10] none
(.p (.p (.fld 0 (some 4))) [.v 11] none
(.ret [.v 12]))))))))))))
def H33 : List (Nat × Nat) := [(12, 5), (10, 4), (7, 5), (5, 4), (4, 6), (3, 5), (2, 4)]
/-- accesscontrol accesscontrolref05.Span -/
def T34 : T :=
(.p .box [.v 0] none
(.p .box [.v 1] none
(.p (.p (.fld 0 (some 2))) [.v 2] none
(.p (.p (.fld 0 (some 2))) [.v 3] none
(.p (.p (.call 38)) [.v 4, .v 5] none
(.p (.p (.fld 2 (some 2))) [.v 2] none
(.p (.p (.fld 2 (some 2))) [.v 3] none
(.p (.p (.call 37)) [.v 7, .v 8] none
(.p (.p (.build [(.int .i64 0), (.int .u64 0), (.int .i64 0), (.int .u64 0)] [(0, 2), (2, 2)])) [.v 6, .v 9] none
(.p (.wr 0 4) [.k (.agg [(.int .i64 0), (.int .u64 0), (.int .i64 0), (.int .u64 0)]), .v 10] none
(.p (.p (.fld 0 (some 4))) [.v 11] none
(.ret [.v 12]))))))))))))
def H34 : List (Nat × Nat) := [(12, 5), (10, 4), (7, 5), (5, 4), (4, 6), (3, 5), (2, 4)]
/-- accesscontrol level.Contains -/
def T35 : T :=
(.p .box [.v 0] none
(.p .box [.v 1] none
(.p (.p (.fld 0 (some 2))) [.v 3] none
(.p (.p (.fld 0 (some 2))) [.v 2] none
(.p (.p (.call 17)) [.v 4, .v 5] none
(.p (.p (.fld 2 (some 2))) [.v 2] (some (6, true))
(.p (.p (.fld 2 (some 2))) [.v 3] (some (6, true))
(.p (.p (.call 17)) [.v 7, .v 8] (some (6, true))
(.p (.p (.pick)) [.v 6, .v 9, .k (.bool false)] none
(.ret [.v 10]))))))))))
def H35 : List (Nat × Nat) := [(13, 5), (11, 4), (7, 4), (5, 5), (3, 5), (2, 4)]
/-- accesscontrol accesscontrolref05.Contains -/
def T36 : T :=
(.p .box [.v 0] none
(.p .box [.v 1] none
(.p (.p (.fld 0 (some 2))) [.v 3] none
(.p (.p (.fld 0 (some 2))) [.v 2] none
(.p (.p (.call 19)) [.v 4, .v 5] none
(.p (.p (.fld 2 (some 2))) [.v 2] (some (6, true))
(.p (.p (.fld 2 (some 2))) [.v 3] (some (6, true))
(.p (.p (.call 19)) [.v 7, .v 8] (some (6, true))
(.p (.p (.pick)) [.v 6, .v 9, .k (.bool false)] none
(.ret [.v 10]))))))))))
def H36 : List (Nat × Nat) := [(13, 5), (11, 4), (7, 4), (5, 5), (3, 5), (2, 4)]
/-- accesscontrol accesscontrolref05.Join -/
def T37 : T :=
(.p .box [.v 0] none
(.p .box [.v 1] none
(.p (.p (.fld 0 none)) [.v 2] none
(.p (.p (.fld 0 none)) [.v 3] none
(.p (.p (.mx)) [.v 4, .v 5] none
(.p (.p (.fld 1 none)) [.v 2] none
(.p (.p (.fld 1 none)) [.v 3] none
(.p (.p (.bin .or)) [.v 7, .v 8] none
(.p (.p (.build [(.int .i64 0), (.int .u64 0)] [(0, 1), (1, 1)])) [.v 6, .v 9] none
(.p (.wr 0 2) [.k (.agg [(.int .i64 0), (.int .u64 0)]), .v 10] none
(.p (.p (.fld 0 (some 2))) [.v 11] none
(.ret [.v 12]))))))))))))
def H37 : List (Nat × Nat) := [(12, 5), (10, 4), (7, 5), (5, 4), (4, 6), (3, 5), (2, 4)]
/-- accesscontrol accesscontrolref05.Meet -/
def T38 : T :=
(.p .box [.v 0] none
(.p .box [.v 1] none
(.p (.p (.fld 0 none)) [.v 2] none
(.p (.p (.fld 0 none)) [.v 3] none
(.p (.p (.mn)) [.v 4, .v 5] none
(.p (.p (.fld 1 none)) [.v 2] none
(.p (.p (.fld 1 none)) [.v 3] none
(.p (.p (.bin .and)) [.v 7, .v 8] none
(.p (.p (.build [(.int .i64 0), (.int .u64 0)] [(0, 1), (1, 1)])) [.v 6, .v 9] none
(.p (.wr 0 2) [.k (.agg [(.int .i64 0), (.int .u64 0)]), .v 10] none
(.p (.p (.fld 0 (some 2))) [.v 11] none
(.ret [.v 12]))))))))))))
def H38 : List (Nat × Nat) := [(12, 5), (10, 4), (7, 5), (5, 4), (4, 6), (3, 5), (2, 4)]
/-- accesscontrol level.Source -/
def T39 : T :=
(.p .box [.v 0] none
(.p (.p (.fld 0 (some 4))) [.v 3] none
(.p (.p (.call 43)) [.v 4, .v 1, .v 2] none
(.p (.p (.bin .neq)) [.v 5, .k (.int .i64 0)] none
(.ite (.v 6) (.p (.p (.build [(.str []), .nils, (.str []), .nils] [])) [] none
(.p (.wr 0 4) [.k (.agg [(.str []), .nils, (.str []), .nils]), .v 7] none
(.p (.p (.fld 0 (some 4))) [.v 8] none
(.ret [.v 9, .v 5]))))
(.p (.p (.fld 0 (some 2))) [.v 3] none
(.p (.p (.call 53)) [.v 7, .v 1, .v 2] none
(.p (.p (.build [(.str []), .nils, (.str []), .nils] [(0, 2)])) [.v 8] none
(.p (.wr 0 4) [.k (.agg [(.str []), .nils, (.str []), .nils]), .v 9] none
(.p (.p (.fld 0 (some 2))) [.v 3] none
(.p (.p (.fld 2 (some 2))) [.v 3] none
(.p (.p (.eqa true [.i .i64, .i .u64])) [.v 11, .v 12] none
(.ite (.v 13) (.p (.p (.fld 2 (some 2))) [.v 3] none
(.p (.p (.call 53)) [.v 14, .v 1, .v 2] none
(.p (.wr 2 2) [.v 10, .v 15] none
(.p (.p (.fld 0 (some 4))) [.v 16] none
(.p (.wr 0 4) [.k (.agg [(.str []), .nils, (.str []), .nils]), .v 17] none
(.p (.p (.fld 0 (some 4))) [.v 18] none
(.ret [.v 19, .k (.int .i64 0)])))))))
(.p (.p (.fld 0 (some 4))) [.v 10] none
(.p (.wr 0 4) [.k (.agg [(.str []), .nils, (.str []), .nils]), .v 14] none
(.p (.p (.fld 0 (some 4))) [.v 15] none
(.ret [.v 16, .k (.int .i64 0)])))))))))))))))))
def H39 : List (Nat × Nat) := [(34, 11), (29, 5), (26, 5), (24, 5), (9, 11), (18, 5), (6, 8), (3, 5)]
/-- accesscontrol accesscontrolref05.Source -/
def T40 : T :=
(.p .box [.v 0] none
(.p (.p (.call 49)) [.v 1, .v 2] none
(.p (.p (.un .not)) [.v 4] none
(.ite (.v 5) (.p (.p (.build [(.str []), .nils, (.str []), .nils] [])) [] none
(.p (.wr 0 4) [.k (.agg [(.str []), .nils, (.str []), .nils]), .v 6] none
(.p (.p (.fld 0 (some 4))) [.v 7] none
(.ret [.v 8, .k (.int .i64 2)]))))
(.p (.p (.fld 0 (some 4))) [.v 3] none
(.p (.p (.lenSl)) [.v 1] none
(.p (.p (.lenSl)) [.v 2] none
(.p (.p (.call 15)) [.v 6, .v 7, .v 8] none
(.p (.p (.un .not)) [.v 9] none
(.ite (.v 10) (.p (.p (.build [(.str []), .nils, (.str []), .nils] [])) [] none
(.p (.wr 0 4) [.k (.agg [(.str []), .nils, (.str []), .nils]), .v 11] none
(.p (.p (.fld 0 (some 4))) [.v 12] none
(.ret [.v 13, .k (.int .i64 18)]))))
(.p (.p (.fld 0 none)) [.v 3] none
(.p (.p (.idxS 1)) [.v 1, .v 11] none
(.p (.p (.ldE none)) [.v 12] none
(.p (.p (.fld 0 (some 2))) [.v 3] none
(.p (.p (.call 54)) [.v 14, .v 2] none
(.p (.p (.build [(.str []), .nils] [(0, 1), (1, 1)])) [.v 13, .v 15] none
(.p (.p (.build [(.str []), .nils, (.str []), .nils] [(0, 2)])) [.v 16] none
(.p (.wr 0 4) [.k (.agg [(.str []), .nils, (.str []), .nils]), .v 17] none
(.p (.p (.fld 2 (some 2))) [.v 3] none
(.p (.p (.fld 0 (some 2))) [.v 3] none
(.p (.p (.eqa true [.i .i64, .i .u64])) [.v 19, .v 20] none
(.ite (.v 21) (.p (.p (.fld 2 none)) [.v 3] none
(.p (.p (.idxS 1)) [.v 1, .v 22] none
(.p (.p (.ldE none)) [.v 23] none
(.p (.p (.fld 2 (some 2))) [.v 3] none
(.p (.p (.call 54)) [.v 25, .v 2] none
(.p (.p (.build [(.str []), .nils] [(0, 1), (1, 1)])) [.v 24, .v 26] none
(.p (.wr 2 2) [.v 18, .v 27] none
(.p (.p (.fld 0 (some 4))) [.v 28] none
(.p (.wr 0 4) [.k (.agg [(.str []), .nils, (.str []), .nils]), .v 29] none
(.p (.p (.fld 0 (some 4))) [.v 30] none
(.ret [.v 31, .k (.int .i64 0)])))))))))))
(.p (.p (.fld 0 (some 4))) [.v 18] none
(.p (.wr 0 4) [.k (.agg [(.str []), .nils, (.str []), .nils]), .v 22] none
(.p (.p (.fld 0 (some 4))) [.v 23] none
(.ret [.v 24, .k (.int .i64 0)]))))))))))))))))))))))))))
def H40 : List (Nat × Nat) := [(50, 10), (45, 5), (43, 1), (41, 5), (40, 5), (36, 5), (34, 5), (8, 10), (28, 5), (26, 1), (24, 5), (23, 5), (6, 8), (3, 5)]
/-- accesscontrol accesscontrolref05.SameRange -/
def T41 : T :=
(.p .box [.v 0] none
(.p .box [.v 1] none
(.p (.p (.fld 0 (some 2))) [.v 2] none
(.p (.p (.fld 0 (some 2))) [.v 3] none
(.p (.p (.call 55)) [.v 4, .v 5] none
(.p (.p (.fld 2 (some 2))) [.v 2] (some (6, true))
(.p (.p (.fld 2 (some 2))) [.v 3] (some (6, true))
(.p (.p (.call 55)) [.v 7, .v 8] (some (6, true))
(.p (.p (.pick)) [.v 6, .v 9, .k (.bool false)] none
(.ret [.v 10]))))))))))
def H41 : List (Nat × Nat) := [(13, 5), (11, 4), (7, 5), (5, 4), (3, 5), (2, 4)]
/-- accesscontrol accesscontrolref05.Has -/
def T42 : T :=
(.p .box [.v 0] none
(.p (.p (.bin .geq)) [.v 1, .k (.int .i64 0)] none
(.p (.p (.mv)) [.v 1] (some (3, true))
(.p (.p (.bin .lss)) [.v 4, .k (.int .i64 64)] (some (3, true))
(.p (.p (.pick)) [.v 3, .v 5, .k (.bool false)] none
(.p (.p (.fld 1 none)) [.v 2] (some (6, true))
(.p (.p (.mv)) [.v 1] (some (6, true))
(.p (.p (.conv .u64)) [.v 8] (some (6, true))
(.p (.p (.bin .shr)) [.v 7, .v 9] (some (6, true))
(.p (.p (.bin .and)) [.v 10, .k (.int .u64 1)] (some (6, true))
(.p (.p (.bin .eql)) [.v 11, .k (.int .u64 1)] (some (6, true))
(.p (.p (.pick)) [.v 6, .v 12, .k (.bool false)] none
(.ret [.v 13])))))))))))))
def H42 : List (Nat × Nat) := [(12, 4), (2, 4)]
/-- accesscontrol level.checked -/
def T43 : T :=
(.p .box [.v 0] none
(.p (.p (.call 46)) [.v 1, .v 2] none
(.p (.p (.un .not)) [.v 4] none
(.ite (.v 5) (.ret [.k (.int .i64 2)])
(.p (.p (.fld 0 (some 4))) [.v 3] none
(.p (.p (.lenSl)) [.v 1] none
(.p (.p (.lenSl)) [.v 2] none
(.p (.p (.call 14)) [.v 6, .v 7, .v 8] none
(.p (.p (.un .not)) [.v 9] none
(.ite (.v 10) (.ret [.k (.int .i64 18)])
(.ret [.k (.int .i64 0)])))))))))))
def H43 : List (Nat × Nat) := [(3, 5)]
/-- accesscontrol level.text -/
def T44 : T :=
(.p .box [.v 0] none
(.p (.p (.fld 1 none)) [.v 3] none
(.p (.p (.call 56)) [.v 4] none
(.p (.p (.lenSl)) [.v 5] none
(.loop 0 [.k (.int .i64 0), .k .nils] (.p (.p (.bin .lss)) [.v 7, .v 6] none
(.ite (.v 9) (.p (.p (.idxS 2)) [.v 5, .v 7] none
(.p (.p (.ldE (some 2))) [.v 10] none
(.p (.wr 0 2) [.k (.agg [(.int .i64 0), (.int .i64 0)]), .v 11] none
(.p (.p (.fld 0 none)) [.v 12] none
(.p (.p (.fld 1 none)) [.v 12] none
(.p (.p (.bin .eql)) [.v 13, .v 14] none
(.ite (.v 15) (.p (.p (.fld 0 none)) [.v 12] none
(.p (.p (.idxS 1)) [.v 2, .v 16] none
(.p (.p (.ldE none)) [.v 17] none
(.p (.p (.bslice false 1)) [.v 18] none
(.s (.app false 1) [.v 8, .v 19] none
(.p (.p (.bin .add)) [.v 7, .k (.int .i64 1)] none
(.next 0 [.v 21, .v 20])))))))
(.p (.p (.fld 0 none)) [.v 12] none
(.p (.p (.idxS 1)) [.v 2, .v 16] none
(.p (.p (.ldE none)) [.v 17] none
(.p (.p (.bin .add)) [.v 18, .k (.str [46])] none
(.p (.p (.fld 1 none)) [.v 12] none
(.p (.p (.idxS 1)) [.v 2, .v 20] none
(.p (.p (.ldE none)) [.v 21] none
(.p (.p (.bin .add)) [.v 19, .v 22] none
(.p (.p (.bslice false 1)) [.v 23] none
(.s (.app false 1) [.v 8, .v 24] none
(.p (.p (.bin .add)) [.v 7, .k (.int .i64 1)] none
(.next 0 [.v 26, .v 25])))))))))))))))))))
(.p (.p (.lenSl)) [.v 8] none
(.p (.p (.bin .eql)) [.v 10, .k (.int .i64 0)] none
(.ite (.v 11) (.p (.p (.fld 0 none)) [.v 3] none
(.p (.p (.idxS 1)) [.v 1, .v 12] none
(.p (.p (.ldE none)) [.v 13] none
(.ret [.v 14]))))
(.p (.p (.fld 0 none)) [.v 3] none
(.p (.p (.idxS 1)) [.v 1, .v 12] none
(.p (.p (.ldE none)) [.v 13] none
(.p (.p (.bin .add)) [.v 14, .k (.str [58])] none
(.p (.p (.call 57)) [.v 8, .k (.str [44])] none
(.p (.p (.bin .add)) [.v 15, .v 16] none
(.ret [.v 17])))))))))))))))))
def H44 : List (Nat × Nat) := [(58, 1), (56, 5), (53, 1), (51, 5), (41, 1), (39, 11), (35, 1), (33, 11), (27, 1), (25, 11), (20, 11), (18, 11), (9, 11), (16, 1), (10, 5), (3, 5)]
/-- accesscontrol accesscontrolref05.LevelOf -/
def T45 : T :=
(.p .box [.v 0] none
(.p (.p (.fld 0 none)) [.v 1] none
(.loop 0 [.k (.int .i64 0), .v 2] (.p (.p (.fld 1 none)) [.v 1] none
(.p (.p (.lenSl)) [.v 5] none
(.p (.p (.bin .lss)) [.v 3, .v 6] none
(.ite (.v 7) (.p (.p (.bin .eql)) [.v 3, .k (.int .i64 0)] none
(.join 1 1 (.ite (.v 8) (.p (.p (.bin .add)) [.v 4, .k (.str [58])] none
(.next 1 [.v 9]))
(.p (.p (.bin .add)) [.v 4, .k (.str [44])] none
(.next 1 [.v 9])))
(.p (.p (.fld 1 none)) [.v 1] none
(.p (.p (.idxS 2)) [.v 10, .v 3] none
(.p (.p (.off 0)) [.v 11] none
(.p (.p (.ldE none)) [.v 12] none
(.p (.p (.bin .add)) [.v 9, .v 13] none
(.p (.p (.fld 1 none)) [.v 1] none
(.p (.p (.idxS 2)) [.v 15, .v 3] none
(.p (.p (.off 1)) [.v 16] none
(.p (.p (.ldE none)) [.v 17] none
(.p (.p (.bin .neq)) [.v 18, .k (.str [])] none
(.ite (.v 19) (.p (.p (.bin .add)) [.v 14, .k (.str [46])] none
(.p (.p (.fld 1 none)) [.v 1] none
(.p (.p (.idxS 2)) [.v 21, .v 3] none
(.p (.p (.off 1)) [.v 22] none
(.p (.p (.ldE none)) [.v 23] none
(.p (.p (.bin .add)) [.v 20, .v 24] none
(.p (.p (.bin .add)) [.v 3, .k (.int .i64 1)] none
(.next 0 [.v 26, .v 25]))))))))
(.p (.p (.bin .add)) [.v 3, .k (.int .i64 1)] none
(.next 0 [.v 20, .v 14])))))))))))))))
(.ret [.v 4]))))))))
def H45 : List (Nat × Nat) := [(41, 1), (40, 1), (37, 3), (32, 1), (31, 1), (28, 3), (25, 1), (24, 1), (21, 3), (8, 3), (5, 3), (1, 3)]
/-- accesscontrol level.proper -/
def T46 : T :=
(.p (.p (.call 58)) [.v 0, .k (.int .i64 16)] none
(.p (.p (.mv)) [.v 1] (some (2, true))
(.p (.p (.call 58)) [.v 3, .k (.int .i64 64)] (some (2, true))
(.p (.p (.pick)) [.v 2, .v 4, .k (.bool false)] none
(.ret [.v 5])))))
def H46 : List (Nat × Nat) := []
/-- accesscontrol level.parsed -/
def T48 : T :=
(.p (.p (.call 47)) [.v 0, .k (.str [58])] none
(.p (.p (.ext 0)) [.v 1] none
(.p (.p (.ext 1)) [.v 1] none
(.p (.p (.ext 2)) [.v 1] none
(.p (.p (.build [(.str []), .nils] [(0, 1)])) [.v 2] none
(.p (.wr 0 2) [.k (.agg [(.str []), .nils]), .v 5] none
(.p (.p (.call 60)) [.v 2] none
(.p (.p (.un .not)) [.v 7] none
(.ite (.v 8) (.p (.p (.fld 0 (some 2))) [.v 6] none
(.p (.wr 0 2) [.k (.agg [(.str []), .nils]), .v 9] none
(.p (.p (.fld 0 (some 2))) [.v 10] none
(.ret [.v 11, .k (.bool false)]))))
(.p (.p (.un .not)) [.v 4] none
(.ite (.v 9) (.p (.p (.fld 0 (some 2))) [.v 6] none
(.p (.wr 0 2) [.k (.agg [(.str []), .nils]), .v 10] none
(.p (.p (.fld 0 (some 2))) [.v 11] none
(.ret [.v 12, .k (.bool true)]))))
(.p (.p (.call 61)) [.v 3, .k (.str [44])] none
(.p (.p (.lenSl)) [.v 10] none
(.loop 0 [.k (.int .i64 0), .k (.bool false), .v 6, .k (.agg [(.str []), .nils])] (.p (.p (.bin .lss)) [.v 12, .v 11] none
(.ite (.v 16) (.p (.p (.idxS 1)) [.v 10, .v 12] none
(.p (.p (.ldE none)) [.v 17] none
(.p (.p (.call 62)) [.v 18] none
(.p (.p (.ext 0)) [.v 19] none
(.p (.p (.ext 1)) [.v 19] none
(.p (.wr 0 2) [.k (.agg [(.str []), (.str [])]), .v 20] none
(.p (.p (.un .not)) [.v 21] none
(.ite (.v 23) (.p (.p (.fld 0 (some 2))) [.v 14] none
(.p (.wr 0 2) [.v 15, .v 24] none
(.p (.p (.fld 0 (some 2))) [.v 25] none
(.ret [.v 26, .k (.bool false)]))))
(.p (.p (.fld 1 none)) [.v 14] none
(.p (.p (.fld 0 (some 2))) [.v 22] none
(.p (.p (.bslice false 2)) [.v 25] none
(.s (.app false 2) [.v 24, .v 26] none
(.p (.wr 1 1) [.v 14, .v 27] none
(.p (.p (.bin .add)) [.v 12, .k (.int .i64 1)] none
(.next 0 [.v 29, .v 13, .v 28, .v 15])))))))))))))))
(.p (.p (.fld 0 (some 2))) [.v 14] none
(.p (.wr 0 2) [.v 15, .v 17] none
(.p (.p (.fld 0 (some 2))) [.v 18] none
(.ret [.v 19, .k (.bool true)]))))))))))))))))))))
def H48 : List (Nat × Nat) := [(47, 9), (42, 9), (10, 12), (32, 1), (7, 9), (2, 4)]
/-- accesscontrol accesscontrolref05.Proper -/
def T49 : T :=
(.p (.p (.call 63)) [.v 0, .k (.int .i64 16)] none
(.p (.p (.mv)) [.v 1] (some (2, true))
(.p (.p (.call 63)) [.v 3, .k (.int .i64 64)] (some (2, true))
(.p (.p (.pick)) [.v 2, .v 4, .k (.bool false)] none
(.ret [.v 5])))))
def H49 : List (Nat × Nat) := []
/-- accesscontrol accesscontrolref05.Read -/
def T50 : T :=
(.p (.p (.call 64)) [.v 0, .k (.int .i64 0)] none
(.p (.p (.ext 0)) [.v 1] none
(.p (.p (.ext 1)) [.v 1] none
(.p (.p (.ext 2)) [.v 1] none
(.p (.wr 0 2) [.k (.agg [(.str []), .nils]), .v 2] none
(.p (.p (.un .not)) [.v 4] none
(.p (.p (.mv)) [.v 3] (some (6, false))
(.p (.p (.mv)) [.v 0] (some (6, false))
(.p (.p (.lenStr)) [.v 8] (some (6, false))
(.p (.p (.bin .eql)) [.v 7, .v 9] (some (6, false))
(.p (.p (.pick)) [.v 6, .k (.bool true), .v 10] none
(.ite (.v 11) (.p (.p (.fld 0 (some 2))) [.v 5] none
(.p (.p (.build [(.str []), .nils, (.str []), .nils] [(0, 2)])) [.v 12] none
(.p (.wr 0 4) [.k (.agg [(.str []), .nils, (.str []), .nils]), .v 13] none
(.p (.p (.fld 0 (some 4))) [.v 14] none
(.ret [.v 15, .v 4])))))
(.p (.p (.idxStr)) [.v 0, .v 3] none
(.p (.p (.bin .neq)) [.v 12, .k (.int .u8 45)] none
(.ite (.v 13) (.p (.p (.build [(.str []), .nils, (.str []), .nils] [])) [] none
(.p (.wr 0 4) [.k (.agg [(.str []), .nils, (.str []), .nils]), .v 14] none
(.p (.p (.fld 0 (some 4))) [.v 15] none
(.ret [.v 16, .k (.bool false)]))))
(.p (.p (.bin .add)) [.v 3, .k (.int .i64 1)] none
(.p (.p (.call 64)) [.v 0, .v 14] none
(.p (.p (.ext 0)) [.v 15] none
(.p (.p (.ext 1)) [.v 15] none
(.p (.p (.ext 2)) [.v 15] none
(.p (.wr 0 2) [.k (.agg [(.str []), .nils]), .v 16] none
(.p (.p (.fld 0 (some 2))) [.v 5] none
(.p (.p (.fld 0 (some 2))) [.v 19] none
(.p (.p (.build [(.str []), .nils, (.str []), .nils] [(0, 2), (2, 2)])) [.v 20, .v 21] none
(.p (.p (.mv)) [.v 17] (some (18, true))
(.p (.p (.mv)) [.v 0] (some (18, true))
(.p (.p (.lenStr)) [.v 24] (some (18, true))
(.p (.p (.bin .eql)) [.v 23, .v 25] (some (18, true))
(.p (.p (.pick)) [.v 18, .v 26, .k (.bool false)] none
(.p (.wr 0 4) [.k (.agg [(.str []), .nils, (.str []), .nils]), .v 22] none
(.p (.p (.fld 0 (some 4))) [.v 28] none
(.ret [.v 29, .v 27]))))))))))))))))))))))))))))))))
def H50 : List (Nat × Nat) := [(7, 9), (4, 6), (2, 4)]
/-- slices.Index[[]string,string] -/
def T51 : T :=
(.p (.p (.lenSl)) [.v 0] none
(.loop 0 [.k (.int .i64 0), .k (.int .i64 0)] (.p (.p (.bin .lss)) [.v 3, .v 2] none
(.ite (.v 5) (.p (.p (.idxS 1)) [.v 0, .v 3] none
(.p (.p (.ldE none)) [.v 6] none
(.p (.p (.bin .eql)) [.v 1, .v 7] none
(.ite (.v 8) (.ret [.v 3])
(.p (.p (.bin .add)) [.v 3, .k (.int .i64 1)] none
(.next 0 [.v 9, .v 4]))))))
(.ret [.k (.int .i64 (-1))])))))
def H51 : List (Nat × Nat) := [(14, 1)]
/-- accesscontrol accesscontrolref05.index -/
def T52 : T :=
(.loop 0 [.k (.int .i64 0), .k (.int .i64 0)] (.p (.p (.lenSl)) [.v 0] none
(.p (.p (.bin .lss)) [.v 2, .v 4] none
(.ite (.v 5) (.p (.p (.idxS 1)) [.v 0, .v 2] none
(.p (.p (.ldE none)) [.v 6] none
(.p (.p (.bin .eql)) [.v 7, .v 1] none
(.ite (.v 8) (.ret [.v 2])
(.p (.p (.bin .add)) [.v 2, .k (.int .i64 1)] none
(.next 0 [.v 9, .v 3]))))))
(.ret [.k (.int .i64 (-1))])))))
def H52 : List (Nat × Nat) := [(14, 1)]
/-- accesscontrol level.written -/
def T53 : T :=
(.p .box [.v 0] none
(.p (.p (.fld 0 none)) [.v 3] none
(.p (.p (.idxS 1)) [.v 1, .v 4] none
(.p (.p (.ldE none)) [.v 5] none
(.p (.p (.build [(.str []), .nils] [(0, 1)])) [.v 6] none
(.p (.wr 0 2) [.k (.agg [(.str []), .nils]), .v 7] none
(.p (.p (.fld 1 none)) [.v 3] none
(.p (.p (.call 56)) [.v 9] none
(.p (.p (.lenSl)) [.v 10] none
(.loop 0 [.k (.int .i64 0), .v 8] (.p (.p (.bin .lss)) [.v 12, .v 11] none
(.ite (.v 14) (.p (.p (.idxS 2)) [.v 10, .v 12] none
(.p (.p (.ldE (some 2))) [.v 15] none
(.p (.wr 0 2) [.k (.agg [(.int .i64 0), (.int .i64 0)]), .v 16] none
(.p (.p (.fld 0 none)) [.v 17] none
(.p (.p (.idxS 1)) [.v 2, .v 18] none
(.p (.p (.ldE none)) [.v 19] none
(.p (.p (.build [(.str []), (.str [])] [(0, 1)])) [.v 20] none
(.p (.wr 0 2) [.k (.agg [(.str []), (.str [])]), .v 21] none
(.p (.p (.fld 1 none)) [.v 17] none
(.p (.p (.fld 0 none)) [.v 17] none
(.p (.p (.bin .gtr)) [.v 23, .v 24] none
(.join 1 1 (.ite (.v 25) (.p (.p (.fld 1 none)) [.v 17] none
(.p (.p (.idxS 1)) [.v 2, .v 26] none
(.p (.p (.ldE none)) [.v 27] none
(.p (.wr 1 1) [.v 22, .v 28] none
(.next 1 [.v 29])))))
(.next 1 [.v 22]))
(.p (.p (.fld 1 none)) [.v 13] none
(.p (.p (.fld 0 (some 2))) [.v 26] none
(.p (.p (.bslice false 2)) [.v 28] none
(.s (.app false 2) [.v 27, .v 29] none
(.p (.wr 1 1) [.v 13, .v 30] none
(.p (.p (.bin .add)) [.v 12, .k (.int .i64 1)] none
(.next 0 [.v 32, .v 31])))))))))))))))))))
(.p (.p (.fld 0 (some 2))) [.v 13] none
(.p (.wr 0 2) [.k (.agg [(.str []), .nils]), .v 15] none
(.p (.p (.fld 0 (some 2))) [.v 16] none
(.ret [.v 17]))))))))))))))))
def H53 : List (Nat × Nat) := [(47, 9), (42, 9), (41, 12), (39, 1), (37, 11), (33, 11), (31, 11), (10, 12), (28, 1), (26, 11), (9, 11), (23, 1), (17, 5), (7, 9), (14, 1), (12, 5), (6, 8), (3, 5)]
/-- accesscontrol accesscontrolref05.spans -/
def T54 : T :=
(.p .box [.v 0] none
(.loop 0 [.k (.int .i64 0), .k .nils] (.p (.p (.lenSl)) [.v 1] none
(.p (.p (.bin .lss)) [.v 3, .v 5] none
(.ite (.v 6) (.p (.p (.fld 0 (some 2))) [.v 2] none
(.p (.p (.call 42)) [.v 7, .v 3] none
(.p (.p (.un .not)) [.v 8] none
(.ite (.v 9) (.p (.p (.bin .add)) [.v 3, .k (.int .i64 1)] none
(.next 0 [.v 10, .v 4]))
(.p (.p (.idxS 1)) [.v 1, .v 3] none
(.p (.p (.ldE none)) [.v 10] none
(.p (.p (.build [(.str []), (.str [])] [(0, 1)])) [.v 11] none
(.p (.wr 0 2) [.k (.agg [(.str []), (.str [])]), .v 12] none
(.loop 1 [.v 3, .v 13] (.p (.p (.fld 0 (some 2))) [.v 2] none
(.p (.p (.bin .add)) [.v 14, .k (.int .i64 1)] none
(.p (.p (.call 42)) [.v 16, .v 17] none
(.ite (.v 18) (.p (.p (.bin .add)) [.v 14, .k (.int .i64 1)] none
(.p (.p (.idxS 1)) [.v 1, .v 19] none
(.p (.p (.ldE none)) [.v 20] none
(.p (.wr 1 1) [.v 15, .v 21] none
(.next 1 [.v 19, .v 22])))))
(.p (.p (.fld 0 (some 2))) [.v 15] none
(.p (.p (.bslice false 2)) [.v 19] none
(.s (.app false 2) [.v 4, .v 20] none
(.p (.p (.bin .add)) [.v 14, .k (.int .i64 1)] none
(.next 0 [.v 22, .v 21]))))))))))))))))))
(.ret [.v 4]))))))
def H54 : List (Nat × Nat) := [(33, 9), (31, 1), (7, 9), (20, 1), (2, 4)]
/-- accesscontrol accesscontrolref05.SameLevel -/
def T55 : T :=
(.p .box [.v 0] none
(.p .box [.v 1] none
(.p (.p (.fld 0 none)) [.v 2] none
(.p (.p (.fld 0 none)) [.v 3] none
(.p (.p (.bin .neq)) [.v 4, .v 5] none
(.p (.p (.fld 1 none)) [.v 2] (some (6, false))
(.p (.p (.lenSl)) [.v 7] (some (6, false))
(.p (.p (.fld 1 none)) [.v 3] (some (6, false))
(.p (.p (.lenSl)) [.v 9] (some (6, false))
(.p (.p (.bin .neq)) [.v 8, .v 10] (some (6, false))
(.p (.p (.pick)) [.v 6, .k (.bool true), .v 11] none
(.ite (.v 12) (.ret [.k (.bool false)])
(.loop 0 [.k (.int .i64 0), .k (.bool false)] (.p (.p (.fld 1 none)) [.v 2] none
(.p (.p (.lenSl)) [.v 15] none
(.p (.p (.bin .lss)) [.v 13, .v 16] none
(.ite (.v 17) (.p (.p (.fld 1 none)) [.v 2] none
(.p (.p (.idxS 2)) [.v 18, .v 13] none
(.p (.p (.ldE (some 2))) [.v 19] none
(.p (.p (.fld 1 none)) [.v 3] none
(.p (.p (.idxS 2)) [.v 21, .v 13] none
(.p (.p (.ldE (some 2))) [.v 22] none
(.p (.p (.eqa true [.s, .s])) [.v 20, .v 23] none
(.ite (.v 24) (.ret [.k (.bool false)])
(.p (.p (.bin .add)) [.v 13, .k (.int .i64 1)] none
(.next 0 [.v 25, .v 14]))))))))))
(.ret [.k (.bool true)]))))))))))))))))))
def H55 : List (Nat × Nat) := [(35, 1), (32, 5), (30, 1), (27, 4), (21, 4), (15, 5), (12, 4), (8, 5), (6, 4), (3, 5), (2, 4)]
/-- accesscontrol level.stretches -/
def T56 : T :=
(.loop 0 [.k (.int .i64 0), .k .nils] (.p (.p (.bin .lss)) [.v 1, .k (.int .i64 64)] none
(.ite (.v 3) (.p (.p (.bin .shr)) [.v 0, .v 1] none
(.p (.p (.bin .and)) [.v 4, .k (.int .u64 1)] none
(.p (.p (.bin .eql)) [.v 5, .k (.int .u64 0)] none
(.ite (.v 6) (.p (.p (.bin .add)) [.v 1, .k (.int .i64 1)] none
(.next 0 [.v 7, .v 2]))
(.p (.p (.build [(.int .i64 0), (.int .i64 0)] [(0, 1), (1, 1)])) [.v 1, .v 1] none
(.p (.wr 0 2) [.k (.agg [(.int .i64 0), (.int .i64 0)]), .v 7] none
(.loop 1 [.v 8] (.p (.p (.fld 1 none)) [.v 9] none
(.p (.p (.bin .add)) [.v 10, .k (.int .i64 1)] none
(.p (.p (.bin .lss)) [.v 11, .k (.int .i64 64)] none
(.p (.p (.mv)) [.v 0] (some (12, true))
(.p (.p (.fld 1 none)) [.v 9] (some (12, true))
(.p (.p (.bin .add)) [.v 14, .k (.int .i64 1)] (some (12, true))
(.p (.p (.bin .shr)) [.v 13, .v 15] (some (12, true))
(.p (.p (.bin .and)) [.v 16, .k (.int .u64 1)] (some (12, true))
(.p (.p (.bin .eql)) [.v 17, .k (.int .u64 1)] (some (12, true))
(.p (.p (.pick)) [.v 12, .v 18, .k (.bool false)] none
(.ite (.v 19) (.p (.p (.fld 1 none)) [.v 9] none
(.p (.p (.bin .add)) [.v 20, .k (.int .i64 1)] none
(.p (.wr 1 1) [.v 9, .v 21] none
(.next 1 [.v 22]))))
(.p (.p (.fld 0 (some 2))) [.v 9] none
(.p (.p (.bslice false 2)) [.v 20] none
(.s (.app false 2) [.v 2, .v 21] none
(.p (.p (.fld 1 none)) [.v 9] none
(.p (.p (.bin .add)) [.v 23, .k (.int .i64 1)] none
(.next 0 [.v 24, .v 22]))))))))))))))))))))))))
(.ret [.v 2]))))
def H56 : List (Nat × Nat) := [(39, 7), (34, 7), (31, 7), (24, 7), (18, 7), (5, 7)]
/-- accesscontrol level.distinct -/
def T58 : T :=
(.p (.p (.lenSl)) [.v 0] none
(.p (.p (.bin .gtr)) [.v 2, .v 1] none
(.ite (.v 3) (.ret [.k (.bool false)])
(.p (.p (.lenSl)) [.v 0] none
(.loop 0 [.k (.int .i64 0), .k (.bool false)] (.p (.p (.bin .lss)) [.v 5, .v 4] none
(.ite (.v 7) (.p (.p (.idxS 1)) [.v 0, .v 5] none
(.p (.p (.ldE none)) [.v 8] none
(.p (.p (.lenStr)) [.v 9] none
(.p (.p (.bin .gtr)) [.v 10, .k (.int .i64 32)] none
(.p (.p (.mv)) [.v 9] (some (11, false))
(.p (.p (.call 60)) [.v 12] (some (11, false))
(.p (.p (.un .not)) [.v 13] (some (11, false))
(.p (.p (.pick)) [.v 11, .k (.bool true), .v 14] none
(.p (.p (.mv)) [.v 0] (some (15, false))
(.p (.p (.mv)) [.v 5] (some (15, false))
(.p (.p (.slcV 1 false true false)) [.v 16, .v 17] (some (15, false))
(.p (.p (.mv)) [.v 9] (some (15, false))
(.p (.p (.call 68)) [.v 18, .v 19] (some (15, false))
(.p (.p (.pick)) [.v 15, .k (.bool true), .v 20] none
(.ite (.v 21) (.ret [.k (.bool false)])
(.p (.p (.bin .add)) [.v 5, .k (.int .i64 1)] none
(.next 0 [.v 22, .v 6])))))))))))))))))
(.ret [.k (.bool true)]))))))))
def H58 : List (Nat × Nat) := [(16, 1)]
/-- accesscontrol level.word -/
def T60 : T :=
(.p (.p (.lenStr)) [.v 0] none
(.loop 0 [.k (.int .i64 0), .k (.bool false)] (.p (.p (.bin .lss)) [.v 2, .v 1] none
(.ite (.v 4) (.p (.p (.idxStr)) [.v 0, .v 2] none
(.p (.p (.call 70)) [.v 5] none
(.p (.p (.un .not)) [.v 6] none
(.ite (.v 7) (.ret [.k (.bool false)])
(.p (.p (.bin .add)) [.v 2, .k (.int .i64 1)] none
(.next 0 [.v 8, .v 3]))))))
(.p (.p (.bin .neq)) [.v 0, .k (.str [])] none
(.ret [.v 5]))))))
def H60 : List (Nat × Nat) := []
/-- strings.Split -/
def T61 : T :=
(.p (.p (.call 71)) [.v 0, .v 1, .k (.int .i64 0), .k (.int .i64 (-1))] none
(.ret [.v 2]))
def H61 : List (Nat × Nat) := []
/-- accesscontrol level.span -/
def T62 : T :=
(.p (.p (.call 47)) [.v 0, .k (.str [46])] none
(.p (.p (.ext 0)) [.v 1] none
(.p (.p (.ext 1)) [.v 1] none
(.p (.p (.ext 2)) [.v 1] none
(.p (.p (.build [(.str []), (.str [])] [(0, 1), (1, 1)])) [.v 2, .v 3] none
(.p (.p (.call 60)) [.v 2] none
(.p (.p (.mv)) [.v 4] (some (6, true))
(.p (.p (.un .not)) [.v 7] (some (6, true))
(.p (.p (.mv)) [.v 8] (some (6, true))
(.p (.p (.mv)) [.v 3] (some (9, false))
(.p (.p (.call 60)) [.v 10] (some (9, false))
(.p (.p (.pick)) [.v 9, .k (.bool true), .v 11] (some (6, true))
(.p (.p (.pick)) [.v 6, .v 12, .k (.bool false)] none
(.p (.wr 0 2) [.k (.agg [(.str []), (.str [])]), .v 5] none
(.p (.p (.fld 0 (some 2))) [.v 14] none
(.ret [.v 15, .v 13]))))))))))))))))
def H62 : List (Nat × Nat) := [(2, 4)]
/-- accesscontrol accesscontrolref05.names -/
def T63 : T :=
(.p (.p (.lenSl)) [.v 0] none
(.p (.p (.bin .gtr)) [.v 2, .v 1] none
(.ite (.v 3) (.ret [.k (.bool false)])
(.loop 0 [.k (.int .i64 0), .k (.bool false)] (.p (.p (.lenSl)) [.v 0] none
(.p (.p (.bin .lss)) [.v 4, .v 6] none
(.ite (.v 7) (.p (.p (.idxS 1)) [.v 0, .v 4] none
(.p (.p (.ldE none)) [.v 8] none
(.p (.p (.lenStr)) [.v 9] none
(.p (.p (.bin .lss)) [.v 10, .k (.int .i64 1)] none
(.p (.p (.mv)) [.v 0] (some (11, false))
(.p (.p (.mv)) [.v 4] (some (11, false))
(.p (.p (.idxS 1)) [.v 12, .v 13] (some (11, false))
(.p (.p (.ldE none)) [.v 14] (some (11, false))
(.p (.p (.lenStr)) [.v 15] (some (11, false))
(.p (.p (.bin .gtr)) [.v 16, .k (.int .i64 32)] (some (11, false))
(.p (.p (.pick)) [.v 11, .k (.bool true), .v 17] none
(.p (.p (.mv)) [.v 0] (some (18, false))
(.p (.p (.mv)) [.v 0] (some (18, false))
(.p (.p (.mv)) [.v 4] (some (18, false))
(.p (.p (.idxS 1)) [.v 20, .v 21] (some (18, false))
(.p (.p (.ldE none)) [.v 22] (some (18, false))
(.p (.p (.call 52)) [.v 19, .v 23] (some (18, false))
(.p (.p (.mv)) [.v 4] (some (18, false))
(.p (.p (.bin .lss)) [.v 24, .v 25] (some (18, false))
(.p (.p (.pick)) [.v 18, .k (.bool true), .v 26] none
(.ite (.v 27) (.ret [.k (.bool false)])
(.loop 1 [.k (.int .i64 0), .v 5] (.p (.p (.idxS 1)) [.v 0, .v 4] none
(.p (.p (.ldE none)) [.v 30] none
(.p (.p (.lenStr)) [.v 31] none
(.p (.p (.bin .lss)) [.v 28, .v 32] none
(.ite (.v 33) (.p (.p (.idxS 1)) [.v 0, .v 4] none
(.p (.p (.ldE none)) [.v 34] none
(.p (.p (.idxStr)) [.v 35, .v 28] none
(.p (.p (.call 72)) [.v 36] none
(.p (.p (.un .not)) [.v 37] none
(.ite (.v 38) (.ret [.k (.bool false)])
(.p (.p (.bin .add)) [.v 28, .k (.int .i64 1)] none
(.next 1 [.v 39, .v 29]))))))))
(.p (.p (.bin .add)) [.v 4, .k (.int .i64 1)] none
(.next 0 [.v 34, .v 29])))))))))))))))))))))))))))))
(.ret [.k (.bool true)]))))))))
def H63 : List (Nat × Nat) := [(52, 1), (44, 1), (35, 1), (26, 1), (19, 1)]
/-- accesscontrol accesscontrolref05.level -/
def T64 : T :=
(.p (.p (.call 73)) [.v 0, .v 1] none
(.p (.p (.slcS true true)) [.v 0, .v 1, .v 2] none
(.p (.p (.build [(.str []), .nils] [(0, 1)])) [.v 3] none
(.p (.wr 0 2) [.k (.agg [(.str []), .nils]), .v 4] none
(.p (.p (.bin .eql)) [.v 2, .v 1] none
(.ite (.v 6) (.p (.p (.fld 0 (some 2))) [.v 5] none
(.p (.wr 0 2) [.k (.agg [(.str []), .nils]), .v 7] none
(.p (.p (.fld 0 (some 2))) [.v 8] none
(.ret [.v 9, .v 2, .k (.bool false)]))))
(.loop 0 [.v 2, .k (.bool false), .k (.int .i64 0), .v 1, .v 5, .k (.agg [(.str []), .nils])] (.p (.p (.lenStr)) [.v 0] none
(.p (.p (.bin .lss)) [.v 7, .v 13] none
(.p (.p (.fld 1 none)) [.v 11] (some (14, true))
(.p (.p (.lenSl)) [.v 15] (some (14, true))
(.p (.p (.bin .eql)) [.v 16, .k (.int .i64 0)] (some (14, true))
(.p (.p (.mv)) [.v 17] (some (14, true))
(.p (.p (.mv)) [.v 0] (some (18, true))
(.p (.p (.mv)) [.v 7] (some (18, true))
(.p (.p (.idxStr)) [.v 19, .v 20] (some (18, true))
(.p (.p (.bin .eql)) [.v 21, .k (.int .u8 58)] (some (18, true))
(.p (.p (.pick)) [.v 18, .v 22, .k (.bool false)] (some (14, true))
(.p (.p (.mv)) [.v 23] (some (14, true))
(.p (.p (.fld 1 none)) [.v 11] (some (24, false))
(.p (.p (.lenSl)) [.v 25] (some (24, false))
(.p (.p (.bin .gtr)) [.v 26, .k (.int .i64 0)] (some (24, false))
(.p (.p (.mv)) [.v 27] (some (24, false))
(.p (.p (.mv)) [.v 0] (some (28, true))
(.p (.p (.mv)) [.v 7] (some (28, true))
(.p (.p (.idxStr)) [.v 29, .v 30] (some (28, true))
(.p (.p (.bin .eql)) [.v 31, .k (.int .u8 44)] (some (28, true))
(.p (.p (.pick)) [.v 28, .v 32, .k (.bool false)] (some (24, false))
(.p (.p (.pick)) [.v 24, .k (.bool true), .v 33] (some (14, true))
(.p (.p (.pick)) [.v 14, .v 34, .k (.bool false)] none
(.ite (.v 35) (.p (.p (.bin .add)) [.v 7, .k (.int .i64 1)] none
(.p (.p (.call 73)) [.v 0, .v 36] none
(.p (.p (.slcS true true)) [.v 0, .v 36, .v 37] none
(.p (.p (.build [(.str []), (.str [])] [(0, 1)])) [.v 38] none
(.p (.wr 0 2) [.k (.agg [(.str []), (.str [])]), .v 39] none
(.p (.p (.bin .eql)) [.v 37, .v 36] none
(.ite (.v 41) (.p (.p (.fld 0 (some 2))) [.v 11] none
(.p (.wr 0 2) [.v 12, .v 42] none
(.p (.p (.fld 0 (some 2))) [.v 43] none
(.ret [.v 44, .v 37, .k (.bool false)]))))
(.p (.p (.lenStr)) [.v 0] none
(.p (.p (.bin .lss)) [.v 37, .v 42] none
(.p (.p (.mv)) [.v 0] (some (43, true))
(.p (.p (.mv)) [.v 37] (some (43, true))
(.p (.p (.idxStr)) [.v 44, .v 45] (some (43, true))
(.p (.p (.bin .eql)) [.v 46, .k (.int .u8 46)] (some (43, true))
(.p (.p (.pick)) [.v 43, .v 47, .k (.bool false)] none
(.join 1 6 (.ite (.v 48) (.p (.p (.bin .add)) [.v 37, .k (.int .i64 1)] none
(.p (.p (.call 73)) [.v 0, .v 49] none
(.p (.p (.slcS true true)) [.v 0, .v 49, .v 50] none
(.p (.wr 1 1) [.v 40, .v 51] none
(.p (.p (.bin .eql)) [.v 50, .v 49] none
(.ite (.v 53) (.p (.p (.fld 0 (some 2))) [.v 11] none
(.p (.wr 0 2) [.v 12, .v 54] none
(.p (.p (.fld 0 (some 2))) [.v 55] none
(.ret [.v 56, .v 50, .k (.bool false)]))))
(.next 1 [.v 50, .v 49, .v 8, .v 9, .v 52, .v 12])))))))
(.next 1 [.v 37, .v 36, .v 8, .v 9, .v 40, .v 12]))
(.p (.p (.fld 1 none)) [.v 11] none
(.p (.p (.fld 0 (some 2))) [.v 53] none
(.p (.p (.bslice false 2)) [.v 56] none
(.s (.app false 2) [.v 55, .v 57] none
(.p (.wr 1 1) [.v 11, .v 58] none
(.next 0 [.v 49, .v 51, .v 52, .v 50, .v 59, .v 54])))))))))))))))))))))
(.p (.p (.fld 0 (some 2))) [.v 11] none
(.p (.wr 0 2) [.v 12, .v 36] none
(.p (.p (.fld 0 (some 2))) [.v 37] none
(.ret [.v 38, .v 7, .k (.bool true)])))))))))))))))))))))))))))))))))))
def H64 : List (Nat × Nat) := [(96, 10), (91, 10), (85, 11), (9, 11), (39, 10), (28, 10), (8, 10), (4, 6)]
/-- slices.Contains[[]string,string] -/
def T68 : T :=
(.p (.p (.call 51)) [.v 0, .v 1] none
(.p (.p (.bin .geq)) [.v 2, .k (.int .i64 0)] none
(.ret [.v 3])))
def H68 : List (Nat × Nat) := []
/-- accesscontrol level.character -/
def T70 : T :=
(.p (.p (.bin .geq)) [.v 0, .k (.int .u8 97)] none
(.p (.p (.mv)) [.v 0] (some (1, true))
(.p (.p (.bin .leq)) [.v 2, .k (.int .u8 122)] (some (1, true))
(.p (.p (.pick)) [.v 1, .v 3, .k (.bool false)] none
(.p (.p (.mv)) [.v 0] (some (4, false))
(.p (.p (.bin .geq)) [.v 5, .k (.int .u8 65)] (some (4, false))
(.p (.p (.mv)) [.v 6] (some (4, false))
(.p (.p (.mv)) [.v 0] (some (7, true))
(.p (.p (.bin .leq)) [.v 8, .k (.int .u8 90)] (some (7, true))
(.p (.p (.pick)) [.v 7, .v 9, .k (.bool false)] (some (4, false))
(.p (.p (.pick)) [.v 4, .k (.bool true), .v 10] none
(.p (.p (.mv)) [.v 0] (some (11, false))
(.p (.p (.bin .geq)) [.v 12, .k (.int .u8 48)] (some (11, false))
(.p (.p (.mv)) [.v 13] (some (11, false))
(.p (.p (.mv)) [.v 0] (some (14, true))
(.p (.p (.bin .leq)) [.v 15, .k (.int .u8 57)] (some (14, true))
(.p (.p (.pick)) [.v 14, .v 16, .k (.bool false)] (some (11, false))
(.p (.p (.pick)) [.v 11, .k (.bool true), .v 17] none
(.p (.p (.mv)) [.v 0] (some (18, false))
(.p (.p (.bin .eql)) [.v 19, .k (.int .u8 95)] (some (18, false))
(.p (.p (.pick)) [.v 18, .k (.bool true), .v 20] none
(.ret [.v 21]))))))))))))))))))))))
def H70 : List (Nat × Nat) := []
/-- accesscontrol accesscontrolref05.letter -/
def T72 : T :=
(.p (.p (.bin .geq)) [.v 0, .k (.int .u8 65)] none
(.p (.p (.mv)) [.v 0] (some (1, true))
(.p (.p (.bin .leq)) [.v 2, .k (.int .u8 90)] (some (1, true))
(.p (.p (.pick)) [.v 1, .v 3, .k (.bool false)] none
(.p (.p (.mv)) [.v 0] (some (4, false))
(.p (.p (.bin .geq)) [.v 5, .k (.int .u8 97)] (some (4, false))
(.p (.p (.mv)) [.v 6] (some (4, false))
(.p (.p (.mv)) [.v 0] (some (7, true))
(.p (.p (.bin .leq)) [.v 8, .k (.int .u8 122)] (some (7, true))
(.p (.p (.pick)) [.v 7, .v 9, .k (.bool false)] (some (4, false))
(.p (.p (.pick)) [.v 4, .k (.bool true), .v 10] none
(.p (.p (.mv)) [.v 0] (some (11, false))
(.p (.p (.bin .geq)) [.v 12, .k (.int .u8 48)] (some (11, false))
(.p (.p (.mv)) [.v 13] (some (11, false))
(.p (.p (.mv)) [.v 0] (some (14, true))
(.p (.p (.bin .leq)) [.v 15, .k (.int .u8 57)] (some (14, true))
(.p (.p (.pick)) [.v 14, .v 16, .k (.bool false)] (some (11, false))
(.p (.p (.pick)) [.v 11, .k (.bool true), .v 17] none
(.p (.p (.mv)) [.v 0] (some (18, false))
(.p (.p (.bin .eql)) [.v 19, .k (.int .u8 95)] (some (18, false))
(.p (.p (.pick)) [.v 18, .k (.bool true), .v 20] none
(.ret [.v 21]))))))))))))))))))))))
def H72 : List (Nat × Nat) := []
/-- accesscontrol accesscontrolref05.word -/
def T73 : T :=
(.loop 0 [.v 1] (.p (.p (.lenStr)) [.v 0] none
(.p (.p (.bin .lss)) [.v 2, .v 3] none
(.p (.p (.mv)) [.v 0] (some (4, true))
(.p (.p (.mv)) [.v 2] (some (4, true))
(.p (.p (.idxStr)) [.v 5, .v 6] (some (4, true))
(.p (.p (.call 72)) [.v 7] (some (4, true))
(.p (.p (.pick)) [.v 4, .v 8, .k (.bool false)] none
(.ite (.v 9) (.p (.p (.bin .add)) [.v 2, .k (.int .i64 1)] none
(.next 0 [.v 10]))
(.ret [.v 2]))))))))))
def H73 : List (Nat × Nat) := []

end Go.Proofs.YticbfdcfopilfaaDoor
