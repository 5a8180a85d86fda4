/- The trees of the functions, as the tool printed them. -/
import Derived.Test.YtdnoonnanhnkaaaDoorTree
set_option linter.unusedVariables false
set_option maxRecDepth 100000
namespace Go.Proofs.YtdnoonnanhnkaaaDoor
open Go

/-- accesscontrol accesscontrollaw33.PathspecChecks -/
def T3 : T :=
(.p (.p (.bslice false 1)) [.v 0] none
(.p (.p (.call 10)) [.v 2] none
(.p (.p (.un .not)) [.v 3] none
(.ite (.v 4) (.p (.p (.call 11)) [] none
(.ret [.v 5]))
(.p (.p (.call 12)) [.v 1] none
(.p (.p (.ext 0)) [.v 5] none
(.p (.p (.ext 1)) [.v 5] none
(.p (.p (.call 13)) [.v 1] none
(.p (.p (.ext 0)) [.v 8] none
(.p (.p (.ext 1)) [.v 8] none
(.p (.p (.call 14)) [.v 0] none
(.p (.p (.ext 0)) [.v 11] none
(.p (.p (.ext 1)) [.v 11] none
(.p (.p (.call 15)) [.v 0] none
(.p (.p (.ext 0)) [.v 14] none
(.p (.p (.ext 1)) [.v 14] none
(.p (.p (.call 16)) [.v 0] none
(.p (.p (.call 17)) [.v 0] none
(.p (.p (.bin .eql)) [.v 17, .v 18] none
(.p (.p (.mv)) [.v 0] (some (19, true))
(.p (.p (.call 18)) [.v 20] (some (19, true))
(.p (.p (.mv)) [.v 0] (some (19, true))
(.p (.p (.call 19)) [.v 22] (some (19, true))
(.p (.p (.bin .eql)) [.v 21, .v 23] (some (19, true))
(.p (.p (.pick)) [.v 19, .v 24, .k (.bool false)] none
(.p (.p (.mv)) [.v 0] (some (25, true))
(.p (.p (.call 20)) [.v 26] (some (25, true))
(.p (.p (.mv)) [.v 0] (some (25, true))
(.p (.p (.call 21)) [.v 28] (some (25, true))
(.p (.p (.bin .eql)) [.v 27, .v 29] (some (25, true))
(.p (.p (.pick)) [.v 25, .v 30, .k (.bool false)] none
(.p (.p (.mv)) [.v 6] (some (31, true))
(.p (.p (.mv)) [.v 9] (some (31, true))
(.p (.p (.bin .eql)) [.v 32, .v 33] (some (31, true))
(.p (.p (.pick)) [.v 31, .v 34, .k (.bool false)] none
(.p (.p (.mv)) [.v 7] (some (35, true))
(.p (.p (.mv)) [.v 10] (some (35, true))
(.p (.p (.eqb false)) [.v 36, .v 37] (some (35, true))
(.p (.p (.pick)) [.v 35, .v 38, .k (.bool false)] none
(.p (.p (.mv)) [.v 12] (some (39, true))
(.p (.p (.mv)) [.v 15] (some (39, true))
(.p (.p (.bin .eql)) [.v 40, .v 41] (some (39, true))
(.p (.p (.pick)) [.v 39, .v 42, .k (.bool false)] none
(.p (.p (.mv)) [.v 13] (some (43, true))
(.p (.p (.mv)) [.v 16] (some (43, true))
(.p (.p (.eqb false)) [.v 44, .v 45] (some (43, true))
(.p (.p (.pick)) [.v 43, .v 46, .k (.bool false)] none
(.p (.p (.call 11)) [] (some (47, true))
(.p (.p (.pick)) [.v 47, .v 48, .k (.bool false)] none
(.ret [.v 49]))))))))))))))))))))))))))))))))))))))))))))))))))
def H3 : List (Nat × Nat) := []
/-- accesscontrol accesscontrollaw33.PathspecMatch -/
def T4 : T :=
(.p (.p (.bslice false 1)) [.v 0, .v 1] none
(.p (.p (.call 10)) [.v 2] none
(.p (.p (.un .not)) [.v 3] none
(.ite (.v 4) (.p (.p (.call 11)) [] none
(.ret [.v 5]))
(.p (.p (.call 22)) [.v 0, .v 1] none
(.p (.p (.call 23)) [.v 0, .v 1] none
(.p (.p (.eqb false)) [.v 5, .v 6] none
(.p (.p (.call 11)) [] (some (7, true))
(.p (.p (.pick)) [.v 7, .v 8, .k (.bool false)] none
(.ret [.v 9]))))))))))
def H4 : List (Nat × Nat) := []
/-- accesscontrol accesscontrollaw33.PathspecLess -/
def T5 : T :=
(.p (.p (.bslice false 1)) [.v 0, .v 1, .v 2] none
(.p (.p (.call 10)) [.v 3] none
(.p (.p (.un .not)) [.v 4] none
(.ite (.v 5) (.p (.p (.call 11)) [] none
(.ret [.v 6]))
(.p (.p (.call 24)) [.v 0, .v 1] none
(.p (.p (.call 24)) [.v 1, .v 2] none
(.p (.p (.call 24)) [.v 0, .v 2] none
(.p (.p (.call 25)) [.v 0, .v 1] none
(.p (.p (.eqb false)) [.v 6, .v 9] none
(.p (.p (.mv)) [.v 6] (some (10, true))
(.p (.p (.mv)) [.v 11] (some (10, true))
(.p (.p (.mv)) [.v 1] (some (12, true))
(.p (.p (.mv)) [.v 0] (some (12, true))
(.p (.p (.call 24)) [.v 13, .v 14] (some (12, true))
(.p (.p (.pick)) [.v 12, .v 15, .k (.bool false)] (some (10, true))
(.p (.p (.un .not)) [.v 16] (some (10, true))
(.p (.p (.pick)) [.v 10, .v 17, .k (.bool false)] none
(.p (.p (.mv)) [.v 6] (some (18, true))
(.p (.p (.un .not)) [.v 19] (some (18, true))
(.p (.p (.mv)) [.v 20] (some (18, true))
(.p (.p (.mv)) [.v 7] (some (21, false))
(.p (.p (.un .not)) [.v 22] (some (21, false))
(.p (.p (.pick)) [.v 21, .k (.bool true), .v 23] (some (18, true))
(.p (.p (.mv)) [.v 24] (some (18, true))
(.p (.p (.mv)) [.v 8] (some (25, false))
(.p (.p (.pick)) [.v 25, .k (.bool true), .v 26] (some (18, true))
(.p (.p (.pick)) [.v 18, .v 27, .k (.bool false)] none
(.p (.p (.mv)) [.v 6] (some (28, true))
(.p (.p (.mv)) [.v 29] (some (28, true))
(.p (.p (.mv)) [.v 7] (some (30, false))
(.p (.p (.pick)) [.v 30, .k (.bool true), .v 31] (some (28, true))
(.p (.p (.mv)) [.v 32] (some (28, true))
(.p (.p (.mv)) [.v 8] (some (33, false))
(.p (.p (.un .not)) [.v 34] (some (33, false))
(.p (.p (.pick)) [.v 33, .k (.bool true), .v 35] (some (28, true))
(.p (.p (.pick)) [.v 28, .v 36, .k (.bool false)] none
(.p (.p (.call 11)) [] (some (37, true))
(.p (.p (.pick)) [.v 37, .v 38, .k (.bool false)] none
(.ret [.v 39])))))))))))))))))))))))))))))))))))))))
def H5 : List (Nat × Nat) := []
/-- accesscontrol accesscontrollaw33.PathspecLookup -/
def T6 : T :=
(.p (.p (.lenSl)) [.v 0] none
(.p (.p (.bin .gtr)) [.v 3, .k (.int .i64 30)] none
(.p (.p (.mv)) [.v 1] (some (4, false))
(.p (.p (.bslice false 1)) [.v 5] (some (4, false))
(.p (.p (.call 10)) [.v 6] (some (4, false))
(.p (.p (.un .not)) [.v 7] (some (4, false))
(.p (.p (.pick)) [.v 4, .k (.bool true), .v 8] none
(.ite (.v 9) (.p (.p (.call 11)) [] none
(.ret [.v 10]))
(.p (.p (.lenSl)) [.v 0] none
(.loop 0 [.k (.int .i64 0), .k (.bool false)] (.p (.p (.bin .lss)) [.v 11, .v 10] none
(.ite (.v 13) (.p (.p (.idxS 9)) [.v 0, .v 11] none
(.p (.p (.off 0)) [.v 14] none
(.p (.p (.ldE none)) [.v 15] none
(.p (.p (.bslice false 1)) [.v 16] none
(.p (.p (.call 10)) [.v 17] none
(.p (.p (.un .not)) [.v 18] none
(.ite (.v 19) (.p (.p (.call 11)) [] none
(.ret [.v 20]))
(.p (.p (.bin .add)) [.v 11, .k (.int .i64 1)] none
(.next 0 [.v 20, .v 12])))))))))
(.p (.p (.call 26)) [.v 0, .v 1, .v 2] none
(.p (.p (.call 27)) [.v 0, .v 1, .v 2] none
(.p (.p (.bin .eql)) [.v 14, .v 15] none
(.p (.p (.call 11)) [] (some (16, true))
(.p (.p (.pick)) [.v 16, .v 17, .k (.bool false)] none
(.ret [.v 18]))))))))))))))))))
def H6 : List (Nat × Nat) := [(26, 1), (25, 1)]
/-- accesscontrol accesscontrollaw33.PathspecOverlap -/
def T7 : T :=
(.p (.p (.bslice false 1)) [.v 0, .v 1, .v 2] none
(.p (.p (.call 10)) [.v 3] none
(.p (.p (.un .not)) [.v 4] none
(.ite (.v 5) (.p (.p (.call 11)) [] none
(.ret [.v 6]))
(.p (.p (.call 28)) [.v 0, .v 1] none
(.p (.p (.call 22)) [.v 0, .v 2] none
(.p (.p (.mv)) [.v 1] (some (7, true))
(.p (.p (.mv)) [.v 2] (some (7, true))
(.p (.p (.call 22)) [.v 8, .v 9] (some (7, true))
(.p (.p (.pick)) [.v 7, .v 10, .k (.bool false)] none
(.p (.p (.call 29)) [.v 0, .v 1] none
(.p (.p (.eqb false)) [.v 6, .v 12] none
(.p (.p (.mv)) [.v 6] (some (13, true))
(.p (.p (.mv)) [.v 1] (some (13, true))
(.p (.p (.mv)) [.v 0] (some (13, true))
(.p (.p (.call 28)) [.v 15, .v 16] (some (13, true))
(.p (.p (.eqb false)) [.v 14, .v 17] (some (13, true))
(.p (.p (.pick)) [.v 13, .v 18, .k (.bool false)] none
(.p (.p (.mv)) [.v 6] (some (19, true))
(.p (.p (.mv)) [.v 20] (some (19, true))
(.p (.p (.mv)) [.v 11] (some (21, false))
(.p (.p (.un .not)) [.v 22] (some (21, false))
(.p (.p (.pick)) [.v 21, .k (.bool true), .v 23] (some (19, true))
(.p (.p (.pick)) [.v 19, .v 24, .k (.bool false)] none
(.p (.p (.call 11)) [] (some (25, true))
(.p (.p (.pick)) [.v 25, .v 26, .k (.bool false)] none
(.ret [.v 27])))))))))))))))))))))))))))
def H7 : List (Nat × Nat) := []
/-- accesscontrol accesscontrollaw33.PathspecLiteral -/
def T8 : T :=
(.p (.p (.bslice false 1)) [.v 0, .v 1] none
(.p (.p (.call 10)) [.v 2] none
(.p (.p (.un .not)) [.v 3] none
(.p (.p (.mv)) [.v 1] (some (4, false))
(.p (.p (.call 18)) [.v 5] (some (4, false))
(.p (.p (.bin .neq)) [.v 6, .k (.int .i64 0)] (some (4, false))
(.p (.p (.pick)) [.v 4, .k (.bool true), .v 7] none
(.ite (.v 8) (.p (.p (.call 11)) [] none
(.ret [.v 9]))
(.p (.p (.call 22)) [.k (.str [47, 42, 42]), .v 1] none
(.p (.p (.un .not)) [.v 9] none
(.p (.p (.mv)) [.v 1] (some (10, false))
(.p (.p (.mv)) [.v 1] (some (10, false))
(.p (.p (.call 22)) [.v 11, .v 12] (some (10, false))
(.p (.p (.un .not)) [.v 13] (some (10, false))
(.p (.p (.pick)) [.v 10, .k (.bool true), .v 14] none
(.p (.p (.mv)) [.v 1] (some (15, false))
(.p (.p (.call 20)) [.v 16] (some (15, false))
(.p (.p (.mv)) [.v 1] (some (15, false))
(.p (.p (.bin .neq)) [.v 17, .v 18] (some (15, false))
(.p (.p (.pick)) [.v 15, .k (.bool true), .v 19] none
(.ite (.v 20) (.ret [.k (.bool false)])
(.p (.p (.call 18)) [.v 0] none
(.p (.p (.bin .neq)) [.v 21, .k (.int .i64 0)] none
(.p (.p (.mv)) [.v 0] (some (22, false))
(.p (.p (.mv)) [.v 1] (some (22, false))
(.p (.p (.call 22)) [.v 23, .v 24] (some (22, false))
(.p (.p (.mv)) [.v 0] (some (22, false))
(.p (.p (.mv)) [.v 1] (some (22, false))
(.p (.p (.bin .eql)) [.v 26, .v 27] (some (22, false))
(.p (.p (.eqb false)) [.v 25, .v 28] (some (22, false))
(.p (.p (.pick)) [.v 22, .k (.bool true), .v 29] none
(.p (.p (.call 11)) [] (some (30, true))
(.p (.p (.pick)) [.v 30, .v 31, .k (.bool false)] none
(.ret [.v 32]))))))))))))))))))))))))))))))))))
def H8 : List (Nat × Nat) := []
/-- accesscontrol accesscontrollaw33.PathspecStems -/
def T9 : T :=
(.p (.p (.bslice false 1)) [.v 0, .v 1] none
(.p (.p (.call 10)) [.v 2] none
(.p (.p (.un .not)) [.v 3] none
(.p (.p (.mv)) [.v 0] (some (4, false))
(.p (.p (.mv)) [.v 1] (some (4, false))
(.p (.p (.call 22)) [.v 5, .v 6] (some (4, false))
(.p (.p (.un .not)) [.v 7] (some (4, false))
(.p (.p (.pick)) [.v 4, .k (.bool true), .v 8] none
(.ite (.v 9) (.p (.p (.call 11)) [] none
(.ret [.v 10]))
(.p (.p (.call 20)) [.v 0] none
(.p (.p (.lenStr)) [.v 10] none
(.p (.p (.bin .gtr)) [.v 11, .k (.int .i64 0)] none
(.p (.p (.mv)) [.v 10] (some (12, true))
(.p (.p (.lenStr)) [.v 13] (some (12, true))
(.p (.p (.mv)) [.v 1] (some (12, true))
(.p (.p (.lenStr)) [.v 15] (some (12, true))
(.p (.p (.bin .leq)) [.v 14, .v 16] (some (12, true))
(.p (.p (.pick)) [.v 12, .v 17, .k (.bool false)] none
(.p (.p (.mv)) [.v 1] (some (18, true))
(.p (.p (.mv)) [.v 10] (some (18, true))
(.p (.p (.lenStr)) [.v 20] (some (18, true))
(.p (.p (.slcS false true)) [.v 19, .v 21] (some (18, true))
(.p (.p (.mv)) [.v 10] (some (18, true))
(.p (.p (.bin .eql)) [.v 22, .v 23] (some (18, true))
(.p (.p (.pick)) [.v 18, .v 24, .k (.bool false)] none
(.p (.p (.call 11)) [] (some (25, true))
(.p (.p (.pick)) [.v 25, .v 26, .k (.bool false)] none
(.ret [.v 27]))))))))))))))))))))))))))))
def H9 : List (Nat × Nat) := []
/-- accesscontrol accesscontrollaw33.short -/
def T10 : T :=
(.p (.p (.lenSl)) [.v 0] none
(.loop 0 [.k (.int .i64 0), .k (.bool false)] (.p (.p (.bin .lss)) [.v 2, .v 1] none
(.ite (.v 4) (.p (.p (.idxS 1)) [.v 0, .v 2] none
(.p (.p (.ldE none)) [.v 5] none
(.p (.p (.lenStr)) [.v 6] none
(.p (.p (.bin .gtr)) [.v 7, .k (.int .i64 300)] none
(.ite (.v 8) (.ret [.k (.bool false)])
(.p (.p (.bin .add)) [.v 2, .k (.int .i64 1)] none
(.next 0 [.v 9, .v 3])))))))
(.ret [.k (.bool true)])))))
def H10 : List (Nat × Nat) := [(11, 1)]
/-- accesscontrol accesscontrollaw33.awake -/
def T11 : T :=
(.p (.p (.build [(.str []), (.int .i64 0), (.int .i64 0), (.int .i64 0), (.int .i64 0), (.int .i64 0), (.int .u64 0), (.int .i64 0), (.int .u64 0)] [(0, 1)])) [.k (.str [47, 101, 116, 99, 47, 42])] none
(.p (.p (.build [(.str []), (.int .i64 0), (.int .i64 0), (.int .i64 0), (.int .i64 0), (.int .i64 0), (.int .u64 0), (.int .i64 0), (.int .u64 0)] [(0, 1), (1, 1)])) [.k (.str [47, 101, 116, 99, 47, 97, 46, 99, 111, 110, 102]), .k (.int .i64 3)] none
(.p (.p (.build [(.str []), (.int .i64 0), (.int .i64 0), (.int .i64 0), (.int .i64 0), (.int .i64 0), (.int .u64 0), (.int .i64 0), (.int .u64 0)] [(0, 1)])) [.k (.str [47, 101, 116, 99, 47, 42, 46, 99, 111, 110, 102])] none
(.p (.p (.build [(.str []), (.int .i64 0), (.int .i64 0), (.int .i64 0), (.int .i64 0), (.int .i64 0), (.int .u64 0), (.int .i64 0), (.int .u64 0)] [(0, 1)])) [.k (.str [47, 42, 42])] none
(.p (.p (.bslice false 9)) [.v 0, .v 1, .v 2, .v 3] none
(.p (.p (.call 12)) [.k (.int .i64 4)] none
(.p (.p (.ext 0)) [.v 5] none
(.p (.p (.ext 1)) [.v 5] none
(.p (.p (.call 14)) [.k (.str [100, 105, 114, 101, 99, 116, 111, 114, 121])] none
(.p (.p (.ext 0)) [.v 8] none
(.p (.p (.ext 1)) [.v 8] none
(.p (.p (.call 22)) [.k (.str [47, 101, 116, 99, 47, 42, 46, 99, 111, 110, 102]), .k (.str [47, 101, 116, 99, 47, 97, 46, 99, 111, 110, 102])] none
(.p (.p (.call 22)) [.k (.str [47, 101, 116, 99, 47, 42, 46, 99, 111, 110, 102]), .k (.str [47, 101, 116, 99, 47, 46, 99, 111, 110, 102])] (some (11, true))
(.p (.p (.pick)) [.v 11, .v 12, .k (.bool false)] none
(.p (.p (.call 22)) [.k (.str [47, 101, 116, 99, 47, 42, 46, 99, 111, 110, 102]), .k (.str [47, 101, 116, 99, 47, 97, 47, 98, 46, 99, 111, 110, 102])] (some (13, true))
(.p (.p (.un .not)) [.v 14] (some (13, true))
(.p (.p (.pick)) [.v 13, .v 15, .k (.bool false)] none
(.p (.p (.call 22)) [.k (.str [47, 101, 116, 99, 47, 42, 46, 99, 111, 110, 102]), .k (.str [47, 101, 116, 99, 47, 97, 46, 99, 111, 110, 102, 105, 103])] (some (16, true))
(.p (.p (.un .not)) [.v 17] (some (16, true))
(.p (.p (.pick)) [.v 16, .v 18, .k (.bool false)] none
(.p (.p (.call 22)) [.k (.str [47, 100, 97, 116, 97, 47, 42, 42, 47, 120]), .k (.str [47, 100, 97, 116, 97, 47, 120])] (some (19, true))
(.p (.p (.pick)) [.v 19, .v 20, .k (.bool false)] none
(.p (.p (.call 22)) [.k (.str [47, 100, 97, 116, 97, 47, 42, 42, 47, 120]), .k (.str [47, 100, 97, 116, 97, 47, 97, 47, 98, 47, 120])] (some (21, true))
(.p (.p (.pick)) [.v 21, .v 22, .k (.bool false)] none
(.p (.p (.call 22)) [.k (.str [47, 42, 42]), .k (.str [47])] (some (23, true))
(.p (.p (.pick)) [.v 23, .v 24, .k (.bool false)] none
(.p (.p (.call 20)) [.k (.str [47, 101, 116, 99, 47, 42, 46, 99, 111, 110, 102])] (some (25, true))
(.p (.p (.bin .eql)) [.v 26, .k (.str [47, 101, 116, 99])] (some (25, true))
(.p (.p (.pick)) [.v 25, .v 27, .k (.bool false)] none
(.p (.p (.call 20)) [.k (.str [47, 42, 42])] (some (28, true))
(.p (.p (.bin .eql)) [.v 29, .k (.str [47])] (some (28, true))
(.p (.p (.pick)) [.v 28, .v 30, .k (.bool false)] none
(.p (.p (.call 24)) [.k (.str [47, 101, 116, 99, 47, 42]), .k (.str [47, 101, 116, 99, 47, 42, 46, 99, 111, 110, 102])] (some (31, true))
(.p (.p (.pick)) [.v 31, .v 32, .k (.bool false)] none
(.p (.p (.call 24)) [.k (.str [47, 101, 116, 99, 47, 42, 46, 99, 111, 110, 102]), .k (.str [47, 101, 116, 99, 47, 97, 46, 99, 111, 110, 102])] (some (33, true))
(.p (.p (.pick)) [.v 33, .v 34, .k (.bool false)] none
(.p (.p (.call 28)) [.k (.str [47, 97, 47, 42]), .k (.str [47, 97, 47, 98, 42])] (some (35, true))
(.p (.p (.pick)) [.v 35, .v 36, .k (.bool false)] none
(.p (.p (.call 28)) [.k (.str [47, 97, 47, 63]), .k (.str [47, 97, 47, 98, 99])] (some (37, true))
(.p (.p (.un .not)) [.v 38] (some (37, true))
(.p (.p (.pick)) [.v 37, .v 39, .k (.bool false)] none
(.p (.p (.call 28)) [.k (.str [47, 97, 47, 42, 42]), .k (.str [47, 97])] (some (40, true))
(.p (.p (.pick)) [.v 40, .v 41, .k (.bool false)] none
(.p (.p (.call 16)) [.k (.str [47, 97, 47])] (some (42, true))
(.p (.p (.bin .eql)) [.v 43, .k (.int .i64 9)] (some (42, true))
(.p (.p (.pick)) [.v 42, .v 44, .k (.bool false)] none
(.p (.p (.call 16)) [.k (.str [])] (some (45, true))
(.p (.p (.bin .eql)) [.v 46, .k (.int .i64 9)] (some (45, true))
(.p (.p (.pick)) [.v 45, .v 47, .k (.bool false)] none
(.p (.p (.call 16)) [.k (.str [47, 97, 42, 42, 98])] (some (48, true))
(.p (.p (.bin .eql)) [.v 49, .k (.int .i64 9)] (some (48, true))
(.p (.p (.pick)) [.v 48, .v 50, .k (.bool false)] none
(.p (.p (.call 16)) [.k (.str [47, 42, 42])] (some (51, true))
(.p (.p (.bin .eql)) [.v 52, .k (.int .i64 0)] (some (51, true))
(.p (.p (.pick)) [.v 51, .v 53, .k (.bool false)] none
(.p (.p (.call 18)) [.k (.str [47, 97, 47, 98])] (some (54, true))
(.p (.p (.bin .eql)) [.v 55, .k (.int .i64 0)] (some (54, true))
(.p (.p (.pick)) [.v 54, .v 56, .k (.bool false)] none
(.p (.p (.call 18)) [.k (.str [47, 97, 42])] (some (57, true))
(.p (.p (.bin .eql)) [.v 58, .k (.int .i64 9)] (some (57, true))
(.p (.p (.pick)) [.v 57, .v 59, .k (.bool false)] none
(.p (.p (.mv)) [.v 4] (some (60, true))
(.p (.p (.call 26)) [.v 61, .k (.str [47, 101, 116, 99, 47, 97, 46, 99, 111, 110, 102]), .k (.int .i64 1)] (some (60, true))
(.p (.p (.bin .eql)) [.v 62, .k (.int .i64 2)] (some (60, true))
(.p (.p (.pick)) [.v 60, .v 63, .k (.bool false)] none
(.p (.p (.mv)) [.v 4] (some (64, true))
(.p (.p (.call 26)) [.v 65, .k (.str [47, 101, 116, 99, 47, 97, 46, 99, 111, 110, 102]), .k (.int .i64 3)] (some (64, true))
(.p (.p (.bin .eql)) [.v 66, .k (.int .i64 1)] (some (64, true))
(.p (.p (.pick)) [.v 64, .v 67, .k (.bool false)] none
(.p (.p (.mv)) [.v 4] (some (68, true))
(.p (.p (.call 26)) [.v 69, .k (.str [47, 120]), .k (.int .i64 3)] (some (68, true))
(.p (.p (.bin .eql)) [.v 70, .k (.int .i64 3)] (some (68, true))
(.p (.p (.pick)) [.v 68, .v 71, .k (.bool false)] none
(.p (.p (.mv)) [.v 6] (some (72, true))
(.p (.p (.bin .eql)) [.v 73, .k (.str [115, 111, 99, 107, 101, 116])] (some (72, true))
(.p (.p (.pick)) [.v 72, .v 74, .k (.bool false)] none
(.p (.p (.mv)) [.v 7] (some (75, true))
(.p (.p (.pick)) [.v 75, .v 76, .k (.bool false)] none
(.p (.p (.mv)) [.v 9] (some (77, true))
(.p (.p (.bin .eql)) [.v 78, .k (.int .i64 2)] (some (77, true))
(.p (.p (.pick)) [.v 77, .v 79, .k (.bool false)] none
(.p (.p (.mv)) [.v 10] (some (80, true))
(.p (.p (.pick)) [.v 80, .v 81, .k (.bool false)] none
(.ret [.v 82]))))))))))))))))))))))))))))))))))))))))))))))))))))))))))))))))))))))))))))))))))))
def H11 : List (Nat × Nat) := []
/-- accesscontrol pathspec.Kind -/
def T12 : T :=
(.p (.p (.bin .eql)) [.v 0, .k (.int .i64 0)] none
(.ite (.v 1) (.ret [.k (.str [97, 110, 121]), .k (.bool true)])
(.p (.p (.bin .eql)) [.v 0, .k (.int .i64 1)] none
(.ite (.v 2) (.ret [.k (.str [114, 101, 103, 117, 108, 97, 114]), .k (.bool true)])
(.p (.p (.bin .eql)) [.v 0, .k (.int .i64 2)] none
(.ite (.v 3) (.ret [.k (.str [100, 105, 114, 101, 99, 116, 111, 114, 121]), .k (.bool true)])
(.p (.p (.bin .eql)) [.v 0, .k (.int .i64 3)] none
(.ite (.v 4) (.ret [.k (.str [108, 105, 110, 107]), .k (.bool true)])
(.p (.p (.bin .eql)) [.v 0, .k (.int .i64 4)] none
(.ite (.v 5) (.ret [.k (.str [115, 111, 99, 107, 101, 116]), .k (.bool true)])
(.ret [.k (.str []), .k (.bool false)])))))))))))
def H12 : List (Nat × Nat) := []
/-- accesscontrol accesscontrolref33.Kind -/
def T13 : T :=
(.p (.p (.bin .lss)) [.v 0, .k (.int .i64 0)] none
(.p (.p (.mv)) [.v 0] (some (1, false))
(.p (.p (.bin .gtr)) [.v 2, .k (.int .i64 4)] (some (1, false))
(.p (.p (.pick)) [.v 1, .k (.bool true), .v 3] none
(.ite (.v 4) (.ret [.k (.str []), .k (.bool false)])
(.p (.p (.call 30)) [] none
(.p (.p (.idxS 1)) [.v 5, .v 0] none
(.p (.p (.ldE none)) [.v 6] none
(.ret [.v 7, .k (.bool true)])))))))))
def H13 : List (Nat × Nat) := [(12, 1)]
/-- accesscontrol pathspec.KindOf -/
def T14 : T :=
(.loop 0 [.k (.int .i64 0), .k (.bool false), .k (.int .i64 0)] (.p (.p (.bin .leq)) [.v 1, .k (.int .i64 4)] none
(.ite (.v 4) (.p (.p (.call 12)) [.v 1] none
(.p (.p (.ext 0)) [.v 5] none
(.p (.p (.ext 1)) [.v 5] none
(.p (.p (.bin .eql)) [.v 6, .v 0] none
(.ite (.v 8) (.ret [.v 1, .k (.bool true)])
(.p (.p (.bin .add)) [.v 1, .k (.int .i64 1)] none
(.next 0 [.v 9, .v 2, .v 3])))))))
(.ret [.k (.int .i64 0), .k (.bool false)]))))
def H14 : List (Nat × Nat) := []
/-- accesscontrol accesscontrolref33.KindOf -/
def T15 : T :=
(.p (.p (.call 30)) [] none
(.loop 0 [.k (.int .i64 0), .k (.bool false), .k (.int .i64 0)] (.p (.p (.lenSl)) [.v 1] none
(.p (.p (.bin .lss)) [.v 2, .v 5] none
(.ite (.v 6) (.p (.p (.idxS 1)) [.v 1, .v 2] none
(.p (.p (.ldE none)) [.v 7] none
(.p (.p (.bin .eql)) [.v 8, .v 0] none
(.ite (.v 9) (.ret [.v 2, .k (.bool true)])
(.p (.p (.bin .add)) [.v 2, .k (.int .i64 1)] none
(.next 0 [.v 10, .v 3, .v 4]))))))
(.ret [.k (.int .i64 0), .k (.bool false)]))))))
def H15 : List (Nat × Nat) := [(15, 1)]
/-- accesscontrol pathspec.Check -/
def T16 : T :=
(.p (.p (.call 31)) [.v 0] none
(.p (.p (.ext 0)) [.v 1] none
(.p (.p (.ext 1)) [.v 1] none
(.p (.p (.call 32)) [.v 0, .v 3] none
(.ret [.v 4])))))
def H16 : List (Nat × Nat) := []
/-- accesscontrol accesscontrolref33.Check -/
def T17 : T :=
(.p (.p (.call 33)) [.v 0, .k (.bool true)] none
(.ret [.v 1]))
def H17 : List (Nat × Nat) := []
/-- accesscontrol pathspec.Path -/
def T18 : T :=
(.p (.p (.call 34)) [.v 0] none
(.p (.p (.ext 0)) [.v 1] none
(.p (.p (.ext 1)) [.v 1] none
(.p (.p (.call 32)) [.v 0, .v 3] none
(.ret [.v 4])))))
def H18 : List (Nat × Nat) := []
/-- accesscontrol accesscontrolref33.Path -/
def T19 : T :=
(.p (.p (.call 33)) [.v 0, .k (.bool false)] none
(.ret [.v 1]))
def H19 : List (Nat × Nat) := []
/-- accesscontrol pathspec.Stem -/
def T20 : T :=
(.p (.p (.call 31)) [.v 0] none
(.p (.p (.ext 0)) [.v 1] none
(.p (.p (.ext 1)) [.v 1] none
(.p (.p (.un .not)) [.v 3] none
(.ite (.v 4) (.ret [.k (.str [])])
(.p (.p (.call 35)) [.v 2] none
(.ret [.v 5])))))))
def H20 : List (Nat × Nat) := []
/-- accesscontrol accesscontrolref33.Stem -/
def T21 : T :=
(.p (.p (.call 17)) [.v 0] none
(.p (.p (.bin .neq)) [.v 1, .k (.int .i64 0)] none
(.ite (.v 2) (.ret [.k (.str [])])
(.p (.p (.call 36)) [.v 0] none
(.loop 0 [.k (.int .i64 0), .k (.str [])] (.p (.p (.lenSl)) [.v 3] none
(.p (.p (.bin .lss)) [.v 4, .v 6] none
(.p (.p (.mv)) [.v 3] (some (7, true))
(.p (.p (.mv)) [.v 4] (some (7, true))
(.p (.p (.idxS 1)) [.v 8, .v 9] (some (7, true))
(.p (.p (.ldE none)) [.v 10] (some (7, true))
(.p (.p (.call 37)) [.v 11] (some (7, true))
(.p (.p (.pick)) [.v 7, .v 12, .k (.bool false)] none
(.ite (.v 13) (.p (.p (.bin .add)) [.v 5, .k (.str [47])] none
(.p (.p (.idxS 1)) [.v 3, .v 4] none
(.p (.p (.ldE none)) [.v 15] none
(.p (.p (.bin .add)) [.v 14, .v 16] none
(.p (.p (.bin .add)) [.v 4, .k (.int .i64 1)] none
(.next 0 [.v 18, .v 17]))))))
(.p (.p (.bin .eql)) [.v 5, .k (.str [])] none
(.ite (.v 14) (.ret [.k (.str [47])])
(.ret [.v 5])))))))))))))))))
def H21 : List (Nat × Nat) := [(28, 1), (18, 1)]
/-- accesscontrol pathspec.Match -/
def T22 : T :=
(.p (.p (.call 31)) [.v 0] none
(.p (.p (.ext 0)) [.v 2] none
(.p (.p (.ext 1)) [.v 2] none
(.p (.p (.call 34)) [.v 1] none
(.p (.p (.ext 0)) [.v 5] none
(.p (.p (.ext 1)) [.v 5] none
(.p (.p (.mv)) [.v 7] (some (4, true))
(.p (.p (.pick)) [.v 4, .v 8, .k (.bool false)] none
(.p (.p (.mv)) [.v 3] (some (9, true))
(.p (.p (.mv)) [.v 6] (some (9, true))
(.p (.p (.call 38)) [.v 10, .v 11] (some (9, true))
(.p (.p (.pick)) [.v 9, .v 12, .k (.bool false)] none
(.ret [.v 13])))))))))))))
def H22 : List (Nat × Nat) := []
/-- accesscontrol accesscontrolref33.Match -/
def T23 : T :=
(.p (.p (.call 17)) [.v 0] none
(.p (.p (.bin .neq)) [.v 2, .k (.int .i64 0)] none
(.p (.p (.mv)) [.v 1] (some (3, false))
(.p (.p (.call 19)) [.v 4] (some (3, false))
(.p (.p (.bin .neq)) [.v 5, .k (.int .i64 0)] (some (3, false))
(.p (.p (.pick)) [.v 3, .k (.bool true), .v 6] none
(.ite (.v 7) (.ret [.k (.bool false)])
(.p (.p (.call 36)) [.v 0] none
(.p (.p (.call 36)) [.v 1] none
(.p (.p (.lenSl)) [.v 9] none
(.p (.p (.bin .add)) [.v 10, .k (.int .i64 1)] none
(.s (.make [(.bool false)]) [.v 11, .v 11] none
(.p (.p (.idxS 1)) [.v 12, .k (.int .i64 0)] none
(.s (.st 1) [.v 13, .k (.bool true)] none
(.loop 0 [.k (.int .i64 0), .v 12] (.p (.p (.lenSl)) [.v 8] none
(.p (.p (.bin .lss)) [.v 15, .v 17] none
(.ite (.v 18) (.p (.p (.lenSl)) [.v 9] none
(.p (.p (.bin .add)) [.v 19, .k (.int .i64 1)] none
(.s (.make [(.bool false)]) [.v 20, .v 20] none
(.loop 1 [.k (.int .i64 0)] (.p (.p (.lenSl)) [.v 9] none
(.p (.p (.bin .leq)) [.v 22, .v 23] none
(.ite (.v 24) (.p (.p (.idxS 1)) [.v 8, .v 15] none
(.p (.p (.ldE none)) [.v 25] none
(.p (.p (.bin .eql)) [.v 26, .k (.str [42, 42])] none
(.ite (.v 27) (.p (.p (.idxS 1)) [.v 16, .v 22] none
(.s (.ld none) [.v 28] none
(.p (.p (.mv)) [.v 22] (some (29, false))
(.p (.p (.bin .gtr)) [.v 30, .k (.int .i64 0)] (some (29, false))
(.p (.p (.mv)) [.v 31] (some (29, false))
(.p (.p (.mv)) [.v 21] (some (32, true))
(.p (.p (.mv)) [.v 22] (some (32, true))
(.p (.p (.bin .sub)) [.v 34, .k (.int .i64 1)] (some (32, true))
(.p (.p (.idxS 1)) [.v 33, .v 35] (some (32, true))
(.s (.ld none) [.v 36] (some (32, true))
(.p (.p (.pick)) [.v 32, .v 37, .k (.bool false)] (some (29, false))
(.p (.p (.pick)) [.v 29, .k (.bool true), .v 38] none
(.p (.p (.idxS 1)) [.v 21, .v 22] none
(.s (.st 1) [.v 40, .v 39] none
(.p (.p (.bin .add)) [.v 22, .k (.int .i64 1)] none
(.next 1 [.v 42]))))))))))))))))
(.p (.p (.bin .gtr)) [.v 22, .k (.int .i64 0)] none
(.p (.p (.mv)) [.v 16] (some (28, true))
(.p (.p (.mv)) [.v 22] (some (28, true))
(.p (.p (.bin .sub)) [.v 30, .k (.int .i64 1)] (some (28, true))
(.p (.p (.idxS 1)) [.v 29, .v 31] (some (28, true))
(.s (.ld none) [.v 32] (some (28, true))
(.p (.p (.pick)) [.v 28, .v 33, .k (.bool false)] none
(.p (.p (.mv)) [.v 8] (some (34, true))
(.p (.p (.mv)) [.v 15] (some (34, true))
(.p (.p (.idxS 1)) [.v 35, .v 36] (some (34, true))
(.p (.p (.ldE none)) [.v 37] (some (34, true))
(.p (.p (.mv)) [.v 9] (some (34, true))
(.p (.p (.mv)) [.v 22] (some (34, true))
(.p (.p (.bin .sub)) [.v 40, .k (.int .i64 1)] (some (34, true))
(.p (.p (.idxS 1)) [.v 39, .v 41] (some (34, true))
(.p (.p (.ldE none)) [.v 42] (some (34, true))
(.p (.p (.call 39)) [.v 38, .v 43] (some (34, true))
(.p (.p (.pick)) [.v 34, .v 44, .k (.bool false)] none
(.p (.p (.idxS 1)) [.v 21, .v 22] none
(.s (.st 1) [.v 46, .v 45] none
(.p (.p (.bin .add)) [.v 22, .k (.int .i64 1)] none
(.next 1 [.v 48]))))))))))))))))))))))))))
(.p (.p (.bin .add)) [.v 15, .k (.int .i64 1)] none
(.next 0 [.v 25, .v 21])))))))))
(.p (.p (.lenSl)) [.v 9] none
(.p (.p (.idxS 1)) [.v 16, .v 19] none
(.s (.ld none) [.v 20] none
(.ret [.v 21]))))))))))))))))))))))
def H23 : List (Nat × Nat) := [(87, 1), (82, 1), (47, 1)]
/-- accesscontrol pathspec.Less -/
def T24 : T :=
(.p (.p (.call 31)) [.v 0] none
(.p (.p (.ext 0)) [.v 2] none
(.p (.p (.ext 1)) [.v 2] none
(.p (.p (.call 31)) [.v 1] none
(.p (.p (.ext 0)) [.v 5] none
(.p (.p (.ext 1)) [.v 5] none
(.p (.p (.un .not)) [.v 4] none
(.p (.p (.mv)) [.v 7] (some (8, false))
(.p (.p (.un .not)) [.v 9] (some (8, false))
(.p (.p (.pick)) [.v 8, .k (.bool true), .v 10] none
(.ite (.v 11) (.ret [.v 7])
(.p (.p (.call 40)) [.v 0, .v 3] none
(.p (.p (.call 40)) [.v 1, .v 6] none
(.s (.alloc [(.int .i64 0), (.int .i64 0), (.int .i64 0), (.int .i64 0)]) [] none
(.s (.alloc [(.int .i64 0), (.int .i64 0), (.int .i64 0), (.int .i64 0)]) [] none
(.s (.st 4) [.v 14, .v 12] none
(.s (.st 4) [.v 15, .v 13] none
(.loop 0 [.k (.int .i64 0), .k (.bool false)] (.p (.p (.bin .lss)) [.v 18, .k (.int .i64 4)] none
(.ite (.v 20) (.p (.p (.idxA 4 1)) [.v 14, .v 18] none
(.s (.ld none) [.v 21] none
(.p (.p (.idxA 4 1)) [.v 15, .v 18] none
(.s (.ld none) [.v 23] none
(.p (.p (.bin .neq)) [.v 22, .v 24] none
(.ite (.v 25) (.p (.p (.idxA 4 1)) [.v 14, .v 18] none
(.s (.ld none) [.v 26] none
(.p (.p (.idxA 4 1)) [.v 15, .v 18] none
(.s (.ld none) [.v 28] none
(.p (.p (.bin .lss)) [.v 27, .v 29] none
(.ret [.v 30]))))))
(.p (.p (.bin .add)) [.v 18, .k (.int .i64 1)] none
(.next 0 [.v 26, .v 19]))))))))
(.ret [.k (.bool false)])))))))))))))))))))))
def H24 : List (Nat × Nat) := []
/-- accesscontrol accesscontrolref33.Less -/
def T25 : T :=
(.p (.p (.call 17)) [.v 1] none
(.p (.p (.bin .neq)) [.v 2, .k (.int .i64 0)] none
(.ite (.v 3) (.ret [.k (.bool false)])
(.p (.p (.call 17)) [.v 0] none
(.p (.p (.bin .neq)) [.v 4, .k (.int .i64 0)] none
(.ite (.v 5) (.ret [.k (.bool true)])
(.p (.p (.call 41)) [.v 0] none
(.p (.p (.call 41)) [.v 1] none
(.s (.alloc [(.int .i64 0), (.int .i64 0), (.int .i64 0), (.int .i64 0)]) [] none
(.s (.alloc [(.int .i64 0), (.int .i64 0), (.int .i64 0), (.int .i64 0)]) [] none
(.s (.st 4) [.v 8, .v 6] none
(.s (.st 4) [.v 9, .v 7] none
(.loop 0 [.k (.int .i64 0), .k (.bool false)] (.p (.p (.bin .lss)) [.v 12, .k (.int .i64 4)] none
(.ite (.v 14) (.p (.p (.idxA 4 1)) [.v 8, .v 12] none
(.s (.ld none) [.v 15] none
(.p (.p (.idxA 4 1)) [.v 9, .v 12] none
(.s (.ld none) [.v 17] none
(.p (.p (.bin .neq)) [.v 16, .v 18] none
(.ite (.v 19) (.p (.p (.idxA 4 1)) [.v 8, .v 12] none
(.s (.ld none) [.v 20] none
(.p (.p (.idxA 4 1)) [.v 9, .v 12] none
(.s (.ld none) [.v 22] none
(.p (.p (.bin .lss)) [.v 21, .v 23] none
(.ret [.v 24]))))))
(.p (.p (.bin .add)) [.v 12, .k (.int .i64 1)] none
(.next 0 [.v 20, .v 13]))))))))
(.ret [.k (.bool false)]))))))))))))))))
def H25 : List (Nat × Nat) := []
/-- accesscontrol pathspec.Lookup -/
def T26 : T :=
(.p (.p (.lenSl)) [.v 0] none
(.loop 0 [.k (.int .i64 0), .k (.int .i64 (-1))] (.p (.p (.bin .lss)) [.v 4, .v 3] none
(.ite (.v 6) (.p (.p (.idxS 9)) [.v 0, .v 4] none
(.p (.p (.ldE (some 9))) [.v 7] none
(.p (.wr 0 9) [.k (.agg [(.str []), (.int .i64 0), (.int .i64 0), (.int .i64 0), (.int .i64 0), (.int .i64 0), (.int .u64 0), (.int .i64 0), (.int .u64 0)]), .v 8] none
(.p (.p (.fld 1 none)) [.v 9] none
(.p (.p (.bin .eql)) [.v 10, .k (.int .i64 0)] none
(.p (.p (.fld 1 none)) [.v 9] (some (11, false))
(.p (.p (.mv)) [.v 2] (some (11, false))
(.p (.p (.bin .eql)) [.v 12, .v 13] (some (11, false))
(.p (.p (.pick)) [.v 11, .k (.bool true), .v 14] none
(.p (.p (.fld 0 none)) [.v 9] (some (15, true))
(.p (.p (.mv)) [.v 1] (some (15, true))
(.p (.p (.call 22)) [.v 16, .v 17] (some (15, true))
(.p (.p (.pick)) [.v 15, .v 18, .k (.bool false)] none
(.p (.p (.mv)) [.v 5] (some (19, true))
(.p (.p (.bin .lss)) [.v 20, .k (.int .i64 0)] (some (19, true))
(.p (.p (.mv)) [.v 21] (some (19, true))
(.p (.p (.fld 0 none)) [.v 9] (some (22, false))
(.p (.p (.mv)) [.v 0] (some (22, false))
(.p (.p (.mv)) [.v 5] (some (22, false))
(.p (.p (.idxS 9)) [.v 24, .v 25] (some (22, false))
(.p (.p (.off 0)) [.v 26] (some (22, false))
(.p (.p (.ldE none)) [.v 27] (some (22, false))
(.p (.p (.call 24)) [.v 23, .v 28] (some (22, false))
(.p (.p (.un .not)) [.v 29] (some (22, false))
(.p (.p (.pick)) [.v 22, .k (.bool true), .v 30] (some (19, true))
(.p (.p (.pick)) [.v 19, .v 31, .k (.bool false)] none
(.ite (.v 32) (.p (.p (.bin .add)) [.v 4, .k (.int .i64 1)] none
(.next 0 [.v 33, .v 4]))
(.p (.p (.bin .add)) [.v 4, .k (.int .i64 1)] none
(.next 0 [.v 33, .v 5])))))))))))))))))))))))))))))
(.ret [.v 5])))))
def H26 : List (Nat × Nat) := [(41, 1), (40, 1), (36, 11), (27, 11), (21, 11), (17, 11), (9, 11), (15, 1)]
/-- accesscontrol accesscontrolref33.Lookup -/
def T27 : T :=
(.loop 0 [.k (.int .i64 0), .k (.int .i64 (-1))] (.p (.p (.lenSl)) [.v 0] none
(.p (.p (.bin .lss)) [.v 3, .v 5] none
(.ite (.v 6) (.p (.p (.idxS 9)) [.v 0, .v 3] none
(.p (.p (.off 1)) [.v 7] none
(.p (.p (.ldE none)) [.v 8] none
(.p (.p (.bin .neq)) [.v 9, .k (.int .i64 0)] none
(.p (.p (.mv)) [.v 0] (some (10, true))
(.p (.p (.mv)) [.v 3] (some (10, true))
(.p (.p (.idxS 9)) [.v 11, .v 12] (some (10, true))
(.p (.p (.off 1)) [.v 13] (some (10, true))
(.p (.p (.ldE none)) [.v 14] (some (10, true))
(.p (.p (.mv)) [.v 2] (some (10, true))
(.p (.p (.bin .neq)) [.v 15, .v 16] (some (10, true))
(.p (.p (.pick)) [.v 10, .v 17, .k (.bool false)] none
(.p (.p (.mv)) [.v 0] (some (18, false))
(.p (.p (.mv)) [.v 3] (some (18, false))
(.p (.p (.idxS 9)) [.v 19, .v 20] (some (18, false))
(.p (.p (.off 0)) [.v 21] (some (18, false))
(.p (.p (.ldE none)) [.v 22] (some (18, false))
(.p (.p (.mv)) [.v 1] (some (18, false))
(.p (.p (.call 23)) [.v 23, .v 24] (some (18, false))
(.p (.p (.un .not)) [.v 25] (some (18, false))
(.p (.p (.pick)) [.v 18, .k (.bool true), .v 26] none
(.ite (.v 27) (.p (.p (.bin .add)) [.v 3, .k (.int .i64 1)] none
(.next 0 [.v 28, .v 4]))
(.p (.p (.bin .lss)) [.v 4, .k (.int .i64 0)] none
(.p (.p (.mv)) [.v 0] (some (28, false))
(.p (.p (.mv)) [.v 3] (some (28, false))
(.p (.p (.idxS 9)) [.v 29, .v 30] (some (28, false))
(.p (.p (.off 0)) [.v 31] (some (28, false))
(.p (.p (.ldE none)) [.v 32] (some (28, false))
(.p (.p (.mv)) [.v 0] (some (28, false))
(.p (.p (.mv)) [.v 4] (some (28, false))
(.p (.p (.idxS 9)) [.v 34, .v 35] (some (28, false))
(.p (.p (.off 0)) [.v 36] (some (28, false))
(.p (.p (.ldE none)) [.v 37] (some (28, false))
(.p (.p (.call 25)) [.v 33, .v 38] (some (28, false))
(.p (.p (.un .not)) [.v 39] (some (28, false))
(.p (.p (.pick)) [.v 28, .k (.bool true), .v 40] none
(.ite (.v 41) (.p (.p (.bin .add)) [.v 3, .k (.int .i64 1)] none
(.next 0 [.v 42, .v 3]))
(.p (.p (.bin .add)) [.v 3, .k (.int .i64 1)] none
(.next 0 [.v 42, .v 4])))))))))))))))))))))))))))))))))))))))
(.ret [.v 4])))))
def H27 : List (Nat × Nat) := [(51, 1), (50, 1), (46, 1), (45, 1), (34, 1), (33, 1), (25, 1), (24, 1), (18, 1), (17, 1)]
/-- accesscontrol pathspec.Overlap -/
def T28 : T :=
(.p (.p (.call 31)) [.v 0] none
(.p (.p (.ext 0)) [.v 2] none
(.p (.p (.ext 1)) [.v 2] none
(.p (.p (.call 31)) [.v 1] none
(.p (.p (.ext 0)) [.v 5] none
(.p (.p (.ext 1)) [.v 5] none
(.p (.p (.un .not)) [.v 4] none
(.p (.p (.mv)) [.v 7] (some (8, false))
(.p (.p (.un .not)) [.v 9] (some (8, false))
(.p (.p (.pick)) [.v 8, .k (.bool true), .v 10] none
(.ite (.v 11) (.ret [.k (.bool false)])
(.p (.p (.lenSl)) [.v 3] none
(.p (.p (.bin .add)) [.v 12, .k (.int .i64 1)] none
(.s (.make [.nils]) [.v 13, .v 13] none
(.p (.p (.lenSl)) [.v 3] none
(.loop 0 [.v 15] (.p (.p (.bin .geq)) [.v 16, .k (.int .i64 0)] none
(.ite (.v 17) (.p (.p (.lenSl)) [.v 6] none
(.p (.p (.bin .add)) [.v 18, .k (.int .i64 1)] none
(.s (.make [(.int .i64 0)]) [.v 19, .v 19] none
(.p (.p (.idxS 1)) [.v 14, .v 16] none
(.s (.st 1) [.v 21, .v 20] none
(.p (.p (.lenSl)) [.v 6] none
(.loop 1 [.v 23] (.p (.p (.bin .geq)) [.v 24, .k (.int .i64 0)] none
(.ite (.v 25) (.p (.p (.lenSl)) [.v 3] none
(.p (.p (.bin .eql)) [.v 16, .v 26] none
(.p (.p (.mv)) [.v 24] (some (27, true))
(.p (.p (.mv)) [.v 6] (some (27, true))
(.p (.p (.lenSl)) [.v 29] (some (27, true))
(.p (.p (.bin .eql)) [.v 28, .v 30] (some (27, true))
(.p (.p (.pick)) [.v 27, .v 31, .k (.bool false)] none
(.join 2 1 (.ite (.v 32) (.next 2 [.k (.int .i64 0)])
(.next 2 [.k (.int .i64 1048576)]))
(.p (.p (.lenSl)) [.v 3] none
(.p (.p (.bin .lss)) [.v 16, .v 34] none
(.p (.p (.mv)) [.v 3] (some (35, true))
(.p (.p (.mv)) [.v 16] (some (35, true))
(.p (.p (.idxS 1)) [.v 36, .v 37] (some (35, true))
(.p (.p (.ldE none)) [.v 38] (some (35, true))
(.p (.p (.call 42)) [.v 39] (some (35, true))
(.p (.p (.pick)) [.v 35, .v 40, .k (.bool false)] none
(.join 2 1 (.ite (.v 41) (.p (.p (.bin .add)) [.v 16, .k (.int .i64 1)] none
(.p (.p (.idxS 1)) [.v 14, .v 42] none
(.s (.ld none) [.v 43] none
(.p (.p (.idxS 1)) [.v 44, .v 24] none
(.s (.ld none) [.v 45] none
(.p (.p (.mn)) [.v 33, .v 46] none
(.p (.p (.lenSl)) [.v 6] none
(.p (.p (.bin .lss)) [.v 24, .v 48] none
(.ite (.v 49) (.p (.p (.idxS 1)) [.v 14, .v 16] none
(.s (.ld none) [.v 50] none
(.p (.p (.bin .add)) [.v 24, .k (.int .i64 1)] none
(.p (.p (.idxS 1)) [.v 51, .v 52] none
(.s (.ld none) [.v 53] none
(.p (.p (.idxS 1)) [.v 6, .v 24] none
(.p (.p (.ldE none)) [.v 55] none
(.p (.p (.call 43)) [.v 56] none
(.p (.p (.bin .add)) [.v 54, .v 57] none
(.p (.p (.mn)) [.v 47, .v 58] none
(.next 2 [.v 59])))))))))))
(.next 2 [.v 47]))))))))))
(.next 2 [.v 33]))
(.p (.p (.lenSl)) [.v 6] none
(.p (.p (.bin .lss)) [.v 24, .v 43] none
(.p (.p (.mv)) [.v 6] (some (44, true))
(.p (.p (.mv)) [.v 24] (some (44, true))
(.p (.p (.idxS 1)) [.v 45, .v 46] (some (44, true))
(.p (.p (.ldE none)) [.v 47] (some (44, true))
(.p (.p (.call 42)) [.v 48] (some (44, true))
(.p (.p (.pick)) [.v 44, .v 49, .k (.bool false)] none
(.join 2 1 (.ite (.v 50) (.p (.p (.idxS 1)) [.v 14, .v 16] none
(.s (.ld none) [.v 51] none
(.p (.p (.bin .add)) [.v 24, .k (.int .i64 1)] none
(.p (.p (.idxS 1)) [.v 52, .v 53] none
(.s (.ld none) [.v 54] none
(.p (.p (.mn)) [.v 42, .v 55] none
(.p (.p (.lenSl)) [.v 3] none
(.p (.p (.bin .lss)) [.v 16, .v 57] none
(.ite (.v 58) (.p (.p (.bin .add)) [.v 16, .k (.int .i64 1)] none
(.p (.p (.idxS 1)) [.v 14, .v 59] none
(.s (.ld none) [.v 60] none
(.p (.p (.idxS 1)) [.v 61, .v 24] none
(.s (.ld none) [.v 62] none
(.p (.p (.idxS 1)) [.v 3, .v 16] none
(.p (.p (.ldE none)) [.v 64] none
(.p (.p (.call 43)) [.v 65] none
(.p (.p (.bin .add)) [.v 63, .v 66] none
(.p (.p (.mn)) [.v 56, .v 67] none
(.next 2 [.v 68])))))))))))
(.next 2 [.v 56]))))))))))
(.next 2 [.v 42]))
(.p (.p (.lenSl)) [.v 3] none
(.p (.p (.bin .lss)) [.v 16, .v 52] none
(.p (.p (.mv)) [.v 24] (some (53, true))
(.p (.p (.mv)) [.v 6] (some (53, true))
(.p (.p (.lenSl)) [.v 55] (some (53, true))
(.p (.p (.bin .lss)) [.v 54, .v 56] (some (53, true))
(.p (.p (.pick)) [.v 53, .v 57, .k (.bool false)] none
(.p (.p (.mv)) [.v 3] (some (58, true))
(.p (.p (.mv)) [.v 16] (some (58, true))
(.p (.p (.idxS 1)) [.v 59, .v 60] (some (58, true))
(.p (.p (.ldE none)) [.v 61] (some (58, true))
(.p (.p (.call 42)) [.v 62] (some (58, true))
(.p (.p (.un .not)) [.v 63] (some (58, true))
(.p (.p (.pick)) [.v 58, .v 64, .k (.bool false)] none
(.p (.p (.mv)) [.v 6] (some (65, true))
(.p (.p (.mv)) [.v 24] (some (65, true))
(.p (.p (.idxS 1)) [.v 66, .v 67] (some (65, true))
(.p (.p (.ldE none)) [.v 68] (some (65, true))
(.p (.p (.call 42)) [.v 69] (some (65, true))
(.p (.p (.un .not)) [.v 70] (some (65, true))
(.p (.p (.pick)) [.v 65, .v 71, .k (.bool false)] none
(.join 2 1 (.ite (.v 72) (.p (.p (.bin .add)) [.v 16, .k (.int .i64 1)] none
(.p (.p (.idxS 1)) [.v 14, .v 73] none
(.s (.ld none) [.v 74] none
(.p (.p (.bin .add)) [.v 24, .k (.int .i64 1)] none
(.p (.p (.idxS 1)) [.v 75, .v 76] none
(.s (.ld none) [.v 77] none
(.p (.p (.bin .add)) [.v 78, .k (.int .i64 1)] none
(.p (.p (.idxS 1)) [.v 3, .v 16] none
(.p (.p (.ldE none)) [.v 80] none
(.p (.p (.call 45)) [.v 81] none
(.p (.p (.idxS 1)) [.v 6, .v 24] none
(.p (.p (.ldE none)) [.v 83] none
(.p (.p (.call 45)) [.v 84] none
(.p (.p (.call 44)) [.v 82, .v 85] none
(.p (.p (.bin .add)) [.v 79, .v 86] none
(.p (.p (.mn)) [.v 51, .v 87] none
(.next 2 [.v 88])))))))))))))))))
(.next 2 [.v 51]))
(.p (.p (.idxS 1)) [.v 14, .v 16] none
(.s (.ld none) [.v 74] none
(.p (.p (.mn)) [.v 73, .k (.int .i64 1048576)] none
(.p (.p (.idxS 1)) [.v 75, .v 24] none
(.s (.st 1) [.v 77, .v 76] none
(.p (.p (.bin .sub)) [.v 24, .k (.int .i64 1)] none
(.next 1 [.v 79])))))))))))))))))))))))))))))))))))))))))))))))))))))))
(.p (.p (.bin .sub)) [.v 16, .k (.int .i64 1)] none
(.next 0 [.v 26])))))))))))
(.p (.p (.idxS 1)) [.v 14, .k (.int .i64 0)] none
(.s (.ld none) [.v 18] none
(.p (.p (.idxS 1)) [.v 19, .k (.int .i64 0)] none
(.s (.ld none) [.v 20] none
(.p (.p (.bin .leq)) [.v 21, .k (.int .i64 256)] none
(.ret [.v 22]))))))))))))))))))))))))
def H28 : List (Nat × Nat) := [(188, 1), (183, 1), (165, 1), (157, 1), (139, 1), (110, 1), (98, 1), (69, 1)]
/-- accesscontrol accesscontrolref33.Overlap -/
def T29 : T :=
(.p (.p (.call 17)) [.v 0] none
(.p (.p (.bin .neq)) [.v 2, .k (.int .i64 0)] none
(.p (.p (.mv)) [.v 1] (some (3, false))
(.p (.p (.call 17)) [.v 4] (some (3, false))
(.p (.p (.bin .neq)) [.v 5, .k (.int .i64 0)] (some (3, false))
(.p (.p (.pick)) [.v 3, .k (.bool true), .v 6] none
(.ite (.v 7) (.ret [.k (.bool false)])
(.p (.p (.call 36)) [.v 0] none
(.p (.p (.call 36)) [.v 1] none
(.loop 0 [.k (.int .i64 0), .k .nils] (.p (.p (.lenSl)) [.v 8] none
(.p (.p (.bin .leq)) [.v 10, .v 12] none
(.ite (.v 13) (.p (.p (.lenSl)) [.v 9] none
(.p (.p (.bin .add)) [.v 14, .k (.int .i64 1)] none
(.s (.make [(.int .i64 0)]) [.v 15, .v 15] none
(.loop 1 [.k (.int .i64 0)] (.p (.p (.lenSl)) [.v 9] none
(.p (.p (.bin .leq)) [.v 17, .v 18] none
(.ite (.v 19) (.p (.p (.bin .eql)) [.v 10, .k (.int .i64 0)] none
(.p (.p (.mv)) [.v 17] (some (20, true))
(.p (.p (.bin .eql)) [.v 21, .k (.int .i64 0)] (some (20, true))
(.p (.p (.pick)) [.v 20, .v 22, .k (.bool false)] none
(.join 2 1 (.ite (.v 23) (.next 2 [.k (.int .i64 0)])
(.next 2 [.k (.int .i64 1048576)]))
(.p (.p (.bin .gtr)) [.v 10, .k (.int .i64 0)] none
(.p (.p (.mv)) [.v 8] (some (25, true))
(.p (.p (.mv)) [.v 10] (some (25, true))
(.p (.p (.bin .sub)) [.v 27, .k (.int .i64 1)] (some (25, true))
(.p (.p (.idxS 1)) [.v 26, .v 28] (some (25, true))
(.p (.p (.ldE none)) [.v 29] (some (25, true))
(.p (.p (.bin .eql)) [.v 30, .k (.str [42, 42])] (some (25, true))
(.p (.p (.pick)) [.v 25, .v 31, .k (.bool false)] none
(.p (.p (.bin .gtr)) [.v 17, .k (.int .i64 0)] none
(.p (.p (.mv)) [.v 9] (some (33, true))
(.p (.p (.mv)) [.v 17] (some (33, true))
(.p (.p (.bin .sub)) [.v 35, .k (.int .i64 1)] (some (33, true))
(.p (.p (.idxS 1)) [.v 34, .v 36] (some (33, true))
(.p (.p (.ldE none)) [.v 37] (some (33, true))
(.p (.p (.bin .eql)) [.v 38, .k (.str [42, 42])] (some (33, true))
(.p (.p (.pick)) [.v 33, .v 39, .k (.bool false)] none
(.join 2 1 (.ite (.v 32) (.p (.p (.bin .sub)) [.v 10, .k (.int .i64 1)] none
(.p (.p (.idxS 1)) [.v 11, .v 41] none
(.s (.ld none) [.v 42] none
(.p (.p (.idxS 1)) [.v 43, .v 17] none
(.s (.ld none) [.v 44] none
(.p (.p (.mn)) [.v 24, .v 45] none
(.next 2 [.v 46])))))))
(.next 2 [.v 24]))
(.join 2 1 (.ite (.v 40) (.p (.p (.bin .sub)) [.v 17, .k (.int .i64 1)] none
(.p (.p (.idxS 1)) [.v 16, .v 42] none
(.s (.ld none) [.v 43] none
(.p (.p (.mn)) [.v 41, .v 44] none
(.next 2 [.v 45])))))
(.next 2 [.v 41]))
(.p (.p (.bin .gtr)) [.v 10, .k (.int .i64 0)] none
(.p (.p (.mv)) [.v 17] (some (43, true))
(.p (.p (.bin .gtr)) [.v 44, .k (.int .i64 0)] (some (43, true))
(.p (.p (.pick)) [.v 43, .v 45, .k (.bool false)] none
(.p (.p (.mv)) [.v 32] (some (46, true))
(.p (.p (.un .not)) [.v 47] (some (46, true))
(.p (.p (.pick)) [.v 46, .v 48, .k (.bool false)] none
(.p (.p (.mv)) [.v 40] (some (49, true))
(.p (.p (.un .not)) [.v 50] (some (49, true))
(.p (.p (.pick)) [.v 49, .v 51, .k (.bool false)] none
(.join 2 1 (.ite (.v 52) (.p (.p (.bin .sub)) [.v 10, .k (.int .i64 1)] none
(.p (.p (.idxS 1)) [.v 11, .v 53] none
(.s (.ld none) [.v 54] none
(.p (.p (.bin .sub)) [.v 17, .k (.int .i64 1)] none
(.p (.p (.idxS 1)) [.v 55, .v 56] none
(.s (.ld none) [.v 57] none
(.p (.p (.bin .add)) [.v 58, .k (.int .i64 1)] none
(.p (.p (.bin .sub)) [.v 10, .k (.int .i64 1)] none
(.p (.p (.idxS 1)) [.v 8, .v 60] none
(.p (.p (.ldE none)) [.v 61] none
(.p (.p (.bin .sub)) [.v 17, .k (.int .i64 1)] none
(.p (.p (.idxS 1)) [.v 9, .v 63] none
(.p (.p (.ldE none)) [.v 64] none
(.p (.p (.call 46)) [.v 62, .v 65] none
(.p (.p (.bin .add)) [.v 59, .v 66] none
(.p (.p (.mn)) [.v 42, .v 67] none
(.next 2 [.v 68])))))))))))))))))
(.next 2 [.v 42]))
(.p (.p (.bin .gtr)) [.v 17, .k (.int .i64 0)] none
(.p (.p (.mv)) [.v 32] (some (54, true))
(.p (.p (.pick)) [.v 54, .v 55, .k (.bool false)] none
(.p (.p (.mv)) [.v 40] (some (56, true))
(.p (.p (.un .not)) [.v 57] (some (56, true))
(.p (.p (.pick)) [.v 56, .v 58, .k (.bool false)] none
(.join 2 1 (.ite (.v 59) (.p (.p (.bin .sub)) [.v 17, .k (.int .i64 1)] none
(.p (.p (.idxS 1)) [.v 16, .v 60] none
(.s (.ld none) [.v 61] none
(.p (.p (.bin .add)) [.v 62, .k (.int .i64 1)] none
(.p (.p (.bin .sub)) [.v 17, .k (.int .i64 1)] none
(.p (.p (.idxS 1)) [.v 9, .v 64] none
(.p (.p (.ldE none)) [.v 65] none
(.p (.p (.call 47)) [.v 66] none
(.p (.p (.bin .add)) [.v 63, .v 67] none
(.p (.p (.mn)) [.v 53, .v 68] none
(.next 2 [.v 69])))))))))))
(.next 2 [.v 53]))
(.p (.p (.bin .gtr)) [.v 10, .k (.int .i64 0)] none
(.p (.p (.mv)) [.v 40] (some (61, true))
(.p (.p (.pick)) [.v 61, .v 62, .k (.bool false)] none
(.p (.p (.mv)) [.v 32] (some (63, true))
(.p (.p (.un .not)) [.v 64] (some (63, true))
(.p (.p (.pick)) [.v 63, .v 65, .k (.bool false)] none
(.join 2 1 (.ite (.v 66) (.p (.p (.bin .sub)) [.v 10, .k (.int .i64 1)] none
(.p (.p (.idxS 1)) [.v 11, .v 67] none
(.s (.ld none) [.v 68] none
(.p (.p (.idxS 1)) [.v 69, .v 17] none
(.s (.ld none) [.v 70] none
(.p (.p (.bin .add)) [.v 71, .k (.int .i64 1)] none
(.p (.p (.bin .sub)) [.v 10, .k (.int .i64 1)] none
(.p (.p (.idxS 1)) [.v 8, .v 73] none
(.p (.p (.ldE none)) [.v 74] none
(.p (.p (.call 47)) [.v 75] none
(.p (.p (.bin .add)) [.v 72, .v 76] none
(.p (.p (.mn)) [.v 60, .v 77] none
(.next 2 [.v 78])))))))))))))
(.next 2 [.v 60]))
(.p (.p (.idxS 1)) [.v 16, .v 17] none
(.s (.st 1) [.v 68, .v 67] none
(.p (.p (.bin .add)) [.v 17, .k (.int .i64 1)] none
(.next 1 [.v 70]))))))))))))))))))))))))))))))))))))))))))))))))))))
(.p (.p (.bslice true 1)) [.v 16] none
(.s (.app true 1) [.v 11, .v 20] none
(.p (.p (.bin .add)) [.v 10, .k (.int .i64 1)] none
(.next 0 [.v 22, .v 21])))))))))))
(.p (.p (.lenSl)) [.v 8] none
(.p (.p (.idxS 1)) [.v 11, .v 14] none
(.s (.ld none) [.v 15] none
(.p (.p (.lenSl)) [.v 9] none
(.p (.p (.idxS 1)) [.v 16, .v 17] none
(.s (.ld none) [.v 18] none
(.p (.p (.bin .leq)) [.v 19, .k (.int .i64 256)] none
(.ret [.v 20])))))))))))))))))))))
def H29 : List (Nat × Nat) := [(171, 1), (144, 1), (120, 1), (115, 1), (64, 1), (54, 1)]
/-- accesscontrol accesscontrolref33.words -/
def T30 : T :=
(.p (.p (.bslice false 1)) [.k (.str [97, 110, 121]), .k (.str [114, 101, 103, 117, 108, 97, 114]), .k (.str [100, 105, 114, 101, 99, 116, 111, 114, 121]), .k (.str [108, 105, 110, 107]), .k (.str [115, 111, 99, 107, 101, 116])] none
(.ret [.v 0]))
def H30 : List (Nat × Nat) := []
/-- accesscontrol pathspec.elements -/
def T31 : T :=
(.p (.p (.call 48)) [.v 0] none
(.p (.p (.ext 0)) [.v 1] none
(.p (.p (.ext 1)) [.v 1] none
(.p (.p (.un .not)) [.v 3] none
(.ite (.v 4) (.ret [.k .nils, .k (.bool false)])
(.p (.p (.lenSl)) [.v 2] none
(.loop 0 [.k (.int .i64 0), .k .nils, .k (.bool false), .k .nils] (.p (.p (.bin .lss)) [.v 6, .v 5] none
(.ite (.v 10) (.p (.p (.idxS 1)) [.v 2, .v 6] none
(.p (.p (.ldE none)) [.v 11] none
(.p (.p (.bin .eql)) [.v 12, .k (.str [42, 42])] none
(.ite (.v 13) (.p (.p (.build [] [])) [] none
(.p (.p (.mkI 72)) [.v 14] none
(.p (.p (.bslice false 1)) [.v 15] none
(.s (.app false 1) [.v 7, .v 16] none
(.p (.p (.bin .add)) [.v 6, .k (.int .i64 1)] none
(.next 0 [.v 18, .v 17, .v 8, .v 9]))))))
(.p (.p (.bin .eql)) [.v 12, .k (.str [])] none
(.p (.p (.mv)) [.v 12] (some (14, false))
(.p (.p (.call 49)) [.v 15, .k (.str [42, 42])] (some (14, false))
(.p (.p (.pick)) [.v 14, .k (.bool true), .v 16] none
(.ite (.v 17) (.ret [.k .nils, .k (.bool false)])
(.p (.p (.lenStr)) [.v 12] none
(.loop 1 [.k (.int .i64 0), .v 8, .v 9] (.p (.p (.bin .lss)) [.v 19, .v 18] none
(.ite (.v 22) (.p (.p (.idxStr)) [.v 12, .v 19] none
(.p (.p (.call 50)) [.v 23] none
(.p (.p (.un .not)) [.v 24] none
(.p (.p (.mv)) [.v 12] (some (25, true))
(.p (.p (.mv)) [.v 19] (some (25, true))
(.p (.p (.idxStr)) [.v 26, .v 27] (some (25, true))
(.p (.p (.bin .neq)) [.v 28, .k (.int .u8 63)] (some (25, true))
(.p (.p (.pick)) [.v 25, .v 29, .k (.bool false)] none
(.p (.p (.mv)) [.v 12] (some (30, true))
(.p (.p (.mv)) [.v 19] (some (30, true))
(.p (.p (.idxStr)) [.v 31, .v 32] (some (30, true))
(.p (.p (.bin .neq)) [.v 33, .k (.int .u8 42)] (some (30, true))
(.p (.p (.pick)) [.v 30, .v 34, .k (.bool false)] none
(.ite (.v 35) (.ret [.k .nils, .k (.bool false)])
(.p (.p (.bin .add)) [.v 19, .k (.int .i64 1)] none
(.next 1 [.v 36, .v 20, .v 21]))))))))))))))))
(.p (.p (.build [(.str [])] [(0, 1)])) [.v 12] none
(.p (.p (.mkI 75)) [.v 23] none
(.p (.p (.bslice false 1)) [.v 24] none
(.s (.app false 1) [.v 7, .v 25] none
(.p (.p (.bin .add)) [.v 6, .k (.int .i64 1)] none
(.next 0 [.v 27, .v 26, .v 20, .v 21])))))))))))))))))))
(.ret [.v 7, .k (.bool true)]))))))))))
def H31 : List (Nat × Nat) := [(21, 1)]
/-- accesscontrol pathspec.code -/
def T32 : T :=
(.p (.p (.lenStr)) [.v 0] none
(.p (.p (.bin .gtr)) [.v 2, .k (.int .i64 256)] none
(.ite (.v 3) (.ret [.k (.int .i64 4)])
(.p (.p (.un .not)) [.v 1] none
(.ite (.v 4) (.ret [.k (.int .i64 9)])
(.ret [.k (.int .i64 0)]))))))
def H32 : List (Nat × Nat) := []
/-- accesscontrol accesscontrolref33.check -/
def T33 : T :=
(.p (.p (.lenStr)) [.v 0] none
(.p (.p (.bin .gtr)) [.v 2, .k (.int .i64 256)] none
(.ite (.v 3) (.ret [.k (.int .i64 4)])
(.p (.p (.lenStr)) [.v 0] none
(.p (.p (.bin .eql)) [.v 4, .k (.int .i64 0)] none
(.p (.p (.mv)) [.v 0] (some (5, false))
(.p (.p (.idxStr)) [.v 6, .k (.int .i64 0)] (some (5, false))
(.p (.p (.bin .neq)) [.v 7, .k (.int .u8 47)] (some (5, false))
(.p (.p (.pick)) [.v 5, .k (.bool true), .v 8] none
(.ite (.v 9) (.ret [.k (.int .i64 9)])
(.p (.p (.call 36)) [.v 0] none
(.loop 0 [.k (.int .i64 0), .k (.int .i64 0)] (.p (.p (.lenSl)) [.v 10] none
(.p (.p (.bin .lss)) [.v 11, .v 13] none
(.ite (.v 14) (.p (.p (.idxS 1)) [.v 10, .v 11] none
(.p (.p (.ldE none)) [.v 15] none
(.p (.p (.call 51)) [.v 16, .v 1] none
(.p (.p (.un .not)) [.v 17] none
(.ite (.v 18) (.ret [.k (.int .i64 9)])
(.p (.p (.bin .add)) [.v 11, .k (.int .i64 1)] none
(.next 0 [.v 19, .v 12])))))))
(.ret [.k (.int .i64 0)]))))))))))))))))
def H33 : List (Nat × Nat) := [(28, 1)]
/-- accesscontrol pathspec.names -/
def T34 : T :=
(.p (.p (.call 48)) [.v 0] none
(.p (.p (.ext 0)) [.v 1] none
(.p (.p (.ext 1)) [.v 1] none
(.p (.p (.un .not)) [.v 3] none
(.ite (.v 4) (.ret [.k .nils, .k (.bool false)])
(.p (.p (.lenSl)) [.v 2] none
(.loop 0 [.k (.int .i64 0), .k (.bool false), .k .nils] (.p (.p (.bin .lss)) [.v 6, .v 5] none
(.ite (.v 9) (.p (.p (.idxS 1)) [.v 2, .v 6] none
(.p (.p (.ldE none)) [.v 10] none
(.p (.p (.bin .eql)) [.v 11, .k (.str [])] none
(.ite (.v 12) (.ret [.k .nils, .k (.bool false)])
(.p (.p (.lenStr)) [.v 11] none
(.loop 1 [.k (.int .i64 0), .v 7, .v 8] (.p (.p (.bin .lss)) [.v 14, .v 13] none
(.ite (.v 17) (.p (.p (.idxStr)) [.v 11, .v 14] none
(.p (.p (.call 50)) [.v 18] none
(.p (.p (.un .not)) [.v 19] none
(.ite (.v 20) (.ret [.k .nils, .k (.bool false)])
(.p (.p (.bin .add)) [.v 14, .k (.int .i64 1)] none
(.next 1 [.v 21, .v 15, .v 16]))))))
(.p (.p (.bin .add)) [.v 6, .k (.int .i64 1)] none
(.next 0 [.v 18, .v 15, .v 16]))))))))))
(.ret [.v 2, .k (.bool true)]))))))))))
def H34 : List (Nat × Nat) := [(20, 1)]
/-- accesscontrol pathspec.stem -/
def T35 : T :=
(.p (.p (.lenSl)) [.v 0] none
(.join 0 2 (.loop 1 [.k (.int .i64 0), .k (.str [])] (.p (.p (.bin .lss)) [.v 2, .v 1] none
(.ite (.v 4) (.p (.p (.idxS 1)) [.v 0, .v 2] none
(.p (.p (.ldE none)) [.v 5] none
(.p (.p (.callM [(75, 95), (72, 94)])) [.v 6] none
(.ite (.v 7) (.next 0 [.v 2, .v 3])
(.p (.p (.call 45)) [.v 6] none
(.p (.p (.bin .add)) [.k (.str [47]), .v 8] none
(.p (.p (.bin .add)) [.v 3, .v 9] none
(.p (.p (.bin .add)) [.v 2, .k (.int .i64 1)] none
(.next 1 [.v 11, .v 10])))))))))
(.next 0 [.v 2, .v 3]))))
(.p (.p (.bin .eql)) [.v 3, .k (.str [])] none
(.ite (.v 4) (.ret [.k (.str [47])])
(.ret [.v 3])))))
def H35 : List (Nat × Nat) := [(10, 1)]
/-- accesscontrol accesscontrolref33.Split -/
def T36 : T :=
(.p (.p (.bin .eql)) [.v 0, .k (.str [47])] none
(.ite (.v 1) (.ret [.k .nils])
(.loop 0 [.k (.int .i64 1), .k (.int .i64 1), .k .nils] (.p (.p (.lenStr)) [.v 0] none
(.p (.p (.bin .leq)) [.v 2, .v 5] none
(.ite (.v 6) (.p (.p (.lenStr)) [.v 0] none
(.p (.p (.bin .eql)) [.v 2, .v 7] none
(.p (.p (.mv)) [.v 0] (some (8, false))
(.p (.p (.mv)) [.v 2] (some (8, false))
(.p (.p (.idxStr)) [.v 9, .v 10] (some (8, false))
(.p (.p (.bin .eql)) [.v 11, .k (.int .u8 47)] (some (8, false))
(.p (.p (.pick)) [.v 8, .k (.bool true), .v 12] none
(.ite (.v 13) (.p (.p (.slcS true true)) [.v 0, .v 3, .v 2] none
(.p (.p (.bslice false 1)) [.v 14] none
(.s (.app false 1) [.v 4, .v 15] none
(.p (.p (.bin .add)) [.v 2, .k (.int .i64 1)] none
(.p (.p (.bin .add)) [.v 2, .k (.int .i64 1)] none
(.next 0 [.v 18, .v 17, .v 16]))))))
(.p (.p (.bin .add)) [.v 2, .k (.int .i64 1)] none
(.next 0 [.v 14, .v 3, .v 4]))))))))))
(.ret [.v 4])))))))
def H36 : List (Nat × Nat) := []
/-- accesscontrol accesscontrolref33.literal -/
def T37 : T :=
(.loop 0 [.k (.int .i64 0), .k (.bool false)] (.p (.p (.lenStr)) [.v 0] none
(.p (.p (.bin .lss)) [.v 1, .v 3] none
(.ite (.v 4) (.p (.p (.idxStr)) [.v 0, .v 1] none
(.p (.p (.bin .eql)) [.v 5, .k (.int .u8 42)] none
(.p (.p (.mv)) [.v 0] (some (6, false))
(.p (.p (.mv)) [.v 1] (some (6, false))
(.p (.p (.idxStr)) [.v 7, .v 8] (some (6, false))
(.p (.p (.bin .eql)) [.v 9, .k (.int .u8 63)] (some (6, false))
(.p (.p (.pick)) [.v 6, .k (.bool true), .v 10] none
(.ite (.v 11) (.ret [.k (.bool false)])
(.p (.p (.bin .add)) [.v 1, .k (.int .i64 1)] none
(.next 0 [.v 12, .v 2]))))))))))
(.ret [.k (.bool true)])))))
def H37 : List (Nat × Nat) := []
/-- accesscontrol pathspec.matches -/
def T38 : T :=
(.p (.p (.lenSl)) [.v 1] none
(.p (.p (.bin .add)) [.v 2, .k (.int .i64 1)] none
(.s (.make [(.bool false)]) [.v 3, .v 3] none
(.p (.p (.idxS 1)) [.v 4, .k (.int .i64 0)] none
(.s (.st 1) [.v 5, .k (.bool true)] none
(.p (.p (.lenSl)) [.v 0] none
(.loop 0 [.k (.int .i64 0), .v 4] (.p (.p (.bin .lss)) [.v 8, .v 7] none
(.ite (.v 10) (.p (.p (.idxS 1)) [.v 0, .v 8] none
(.p (.p (.ldE none)) [.v 11] none
(.p (.p (.lenSl)) [.v 1] none
(.p (.p (.bin .add)) [.v 13, .k (.int .i64 1)] none
(.s (.make [(.bool false)]) [.v 14, .v 14] none
(.p (.p (.lenSl)) [.v 15] none
(.loop 1 [.k (.int .i64 0)] (.p (.p (.bin .lss)) [.v 17, .v 16] none
(.ite (.v 18) (.p (.p (.call 42)) [.v 12] none
(.ite (.v 19) (.p (.p (.idxS 1)) [.v 9, .v 17] none
(.s (.ld none) [.v 20] none
(.p (.p (.mv)) [.v 17] (some (21, false))
(.p (.p (.bin .gtr)) [.v 22, .k (.int .i64 0)] (some (21, false))
(.p (.p (.mv)) [.v 23] (some (21, false))
(.p (.p (.mv)) [.v 15] (some (24, true))
(.p (.p (.mv)) [.v 17] (some (24, true))
(.p (.p (.bin .sub)) [.v 26, .k (.int .i64 1)] (some (24, true))
(.p (.p (.idxS 1)) [.v 25, .v 27] (some (24, true))
(.s (.ld none) [.v 28] (some (24, true))
(.p (.p (.pick)) [.v 24, .v 29, .k (.bool false)] (some (21, false))
(.p (.p (.pick)) [.v 21, .k (.bool true), .v 30] none
(.p (.p (.idxS 1)) [.v 15, .v 17] none
(.s (.st 1) [.v 32, .v 31] none
(.p (.p (.bin .add)) [.v 17, .k (.int .i64 1)] none
(.next 1 [.v 34]))))))))))))))))
(.p (.p (.bin .gtr)) [.v 17, .k (.int .i64 0)] none
(.ite (.v 20) (.p (.p (.bin .sub)) [.v 17, .k (.int .i64 1)] none
(.p (.p (.idxS 1)) [.v 9, .v 21] none
(.s (.ld none) [.v 22] none
(.p (.p (.mv)) [.v 12] (some (23, true))
(.p (.p (.call 45)) [.v 24] (some (23, true))
(.p (.p (.mv)) [.v 1] (some (23, true))
(.p (.p (.mv)) [.v 17] (some (23, true))
(.p (.p (.bin .sub)) [.v 27, .k (.int .i64 1)] (some (23, true))
(.p (.p (.idxS 1)) [.v 26, .v 28] (some (23, true))
(.p (.p (.ldE none)) [.v 29] (some (23, true))
(.p (.p (.call 52)) [.v 25, .v 30] (some (23, true))
(.p (.p (.pick)) [.v 23, .v 31, .k (.bool false)] none
(.p (.p (.idxS 1)) [.v 15, .v 17] none
(.s (.st 1) [.v 33, .v 32] none
(.p (.p (.bin .add)) [.v 17, .k (.int .i64 1)] none
(.next 1 [.v 35]))))))))))))))))
(.p (.p (.bin .add)) [.v 17, .k (.int .i64 1)] none
(.next 1 [.v 21]))))))
(.p (.p (.bin .add)) [.v 8, .k (.int .i64 1)] none
(.next 0 [.v 19, .v 15])))))))))))
(.p (.p (.lenSl)) [.v 1] none
(.p (.p (.idxS 1)) [.v 9, .v 11] none
(.s (.ld none) [.v 12] none
(.ret [.v 13])))))))))))))
def H38 : List (Nat × Nat) := [(66, 1), (20, 1)]
/-- accesscontrol accesscontrolref33.one -/
def T39 : T :=
(.p (.p (.lenStr)) [.v 1] none
(.p (.p (.bin .add)) [.v 2, .k (.int .i64 1)] none
(.s (.make [(.bool false)]) [.v 3, .v 3] none
(.p (.p (.idxS 1)) [.v 4, .k (.int .i64 0)] none
(.s (.st 1) [.v 5, .k (.bool true)] none
(.loop 0 [.k (.int .i64 0), .v 4] (.p (.p (.lenStr)) [.v 0] none
(.p (.p (.bin .lss)) [.v 7, .v 9] none
(.ite (.v 10) (.p (.p (.lenStr)) [.v 1] none
(.p (.p (.bin .add)) [.v 11, .k (.int .i64 1)] none
(.s (.make [(.bool false)]) [.v 12, .v 12] none
(.loop 1 [.k (.int .i64 0)] (.p (.p (.lenStr)) [.v 1] none
(.p (.p (.bin .leq)) [.v 14, .v 15] none
(.ite (.v 16) (.p (.p (.idxStr)) [.v 0, .v 7] none
(.p (.p (.bin .eql)) [.v 17, .k (.int .u8 42)] none
(.ite (.v 18) (.p (.p (.idxS 1)) [.v 8, .v 14] none
(.s (.ld none) [.v 19] none
(.p (.p (.mv)) [.v 14] (some (20, false))
(.p (.p (.bin .gtr)) [.v 21, .k (.int .i64 0)] (some (20, false))
(.p (.p (.mv)) [.v 22] (some (20, false))
(.p (.p (.mv)) [.v 13] (some (23, true))
(.p (.p (.mv)) [.v 14] (some (23, true))
(.p (.p (.bin .sub)) [.v 25, .k (.int .i64 1)] (some (23, true))
(.p (.p (.idxS 1)) [.v 24, .v 26] (some (23, true))
(.s (.ld none) [.v 27] (some (23, true))
(.p (.p (.pick)) [.v 23, .v 28, .k (.bool false)] (some (20, false))
(.p (.p (.pick)) [.v 20, .k (.bool true), .v 29] none
(.p (.p (.idxS 1)) [.v 13, .v 14] none
(.s (.st 1) [.v 31, .v 30] none
(.p (.p (.bin .add)) [.v 14, .k (.int .i64 1)] none
(.next 1 [.v 33]))))))))))))))))
(.p (.p (.bin .gtr)) [.v 14, .k (.int .i64 0)] none
(.p (.p (.mv)) [.v 8] (some (19, true))
(.p (.p (.mv)) [.v 14] (some (19, true))
(.p (.p (.bin .sub)) [.v 21, .k (.int .i64 1)] (some (19, true))
(.p (.p (.idxS 1)) [.v 20, .v 22] (some (19, true))
(.s (.ld none) [.v 23] (some (19, true))
(.p (.p (.pick)) [.v 19, .v 24, .k (.bool false)] none
(.p (.p (.mv)) [.v 0] (some (25, true))
(.p (.p (.mv)) [.v 7] (some (25, true))
(.p (.p (.idxStr)) [.v 26, .v 27] (some (25, true))
(.p (.p (.bin .eql)) [.v 28, .k (.int .u8 63)] (some (25, true))
(.p (.p (.mv)) [.v 29] (some (25, true))
(.p (.p (.mv)) [.v 0] (some (30, false))
(.p (.p (.mv)) [.v 7] (some (30, false))
(.p (.p (.idxStr)) [.v 31, .v 32] (some (30, false))
(.p (.p (.mv)) [.v 1] (some (30, false))
(.p (.p (.mv)) [.v 14] (some (30, false))
(.p (.p (.bin .sub)) [.v 35, .k (.int .i64 1)] (some (30, false))
(.p (.p (.idxStr)) [.v 34, .v 36] (some (30, false))
(.p (.p (.bin .eql)) [.v 33, .v 37] (some (30, false))
(.p (.p (.pick)) [.v 30, .k (.bool true), .v 38] (some (25, true))
(.p (.p (.pick)) [.v 25, .v 39, .k (.bool false)] none
(.p (.p (.idxS 1)) [.v 13, .v 14] none
(.s (.st 1) [.v 41, .v 40] none
(.p (.p (.bin .add)) [.v 14, .k (.int .i64 1)] none
(.next 1 [.v 43])))))))))))))))))))))))))))))
(.p (.p (.bin .add)) [.v 7, .k (.int .i64 1)] none
(.next 0 [.v 17, .v 13])))))))))
(.p (.p (.lenStr)) [.v 1] none
(.p (.p (.idxS 1)) [.v 8, .v 11] none
(.s (.ld none) [.v 12] none
(.ret [.v 13])))))))))))))
def H39 : List (Nat × Nat) := []
/-- accesscontrol pathspec.weight -/
def T40 : T :=
(.p (.p (.call 35)) [.v 1] none
(.p (.p (.lenStr)) [.v 2] none
(.p (.p (.call 53)) [.v 0, .k (.str [63])] none
(.p (.p (.build [(.int .i64 0), (.int .i64 0), (.int .i64 0), (.int .i64 0)] [(0, 1), (1, 1), (2, 1), (3, 1)])) [.k (.int .i64 1), .v 3, .k (.int .i64 0), .v 4] none
(.s (.alloc [(.int .i64 0), (.int .i64 0), (.int .i64 0), (.int .i64 0)]) [] none
(.s (.st 4) [.v 6, .v 5] none
(.p (.p (.lenSl)) [.v 1] none
(.loop 0 [.k (.int .i64 0)] (.p (.p (.bin .lss)) [.v 9, .v 8] none
(.ite (.v 10) (.p (.p (.idxS 1)) [.v 1, .v 9] none
(.p (.p (.ldE none)) [.v 11] none
(.p (.p (.callM [(75, 95), (72, 94)])) [.v 12] none
(.ite (.v 13) (.p (.p (.idxA 4 1)) [.v 6, .k (.int .i64 0)] none
(.s (.st 1) [.v 14, .k (.int .i64 0)] none
(.p (.p (.bin .add)) [.v 9, .k (.int .i64 1)] none
(.next 0 [.v 16]))))
(.p (.p (.bin .add)) [.v 9, .k (.int .i64 1)] none
(.next 0 [.v 14]))))))
(.p (.p (.lenStr)) [.v 0] none
(.loop 1 [.k (.int .i64 0)] (.p (.p (.bin .lss)) [.v 12, .v 11] none
(.ite (.v 13) (.p (.p (.idxStr)) [.v 0, .v 12] none
(.p (.p (.call 50)) [.v 14] none
(.ite (.v 15) (.p (.p (.idxA 4 1)) [.v 6, .k (.int .i64 2)] none
(.s (.ld none) [.v 16] none
(.p (.p (.bin .add)) [.v 17, .k (.int .i64 1)] none
(.p (.p (.idxA 4 1)) [.v 6, .k (.int .i64 2)] none
(.s (.st 1) [.v 19, .v 18] none
(.p (.p (.bin .add)) [.v 12, .k (.int .i64 1)] none
(.next 1 [.v 21])))))))
(.p (.p (.bin .add)) [.v 12, .k (.int .i64 1)] none
(.next 1 [.v 16])))))
(.s (.ld (some 4)) [.v 6] none
(.p (.wr 0 4) [.k (.agg [(.int .i64 0), (.int .i64 0), (.int .i64 0), (.int .i64 0)]), .v 14] none
(.p (.p (.fld 0 (some 4))) [.v 15] none
(.ret [.v 16]))))))))))))))))))
def H40 : List (Nat × Nat) := [(19, 1), (4, 6)]
/-- accesscontrol accesscontrolref33.weight -/
def T41 : T :=
(.s (.alloc [(.int .i64 0), (.int .i64 0), (.int .i64 0), (.int .i64 0)]) [] none
(.p (.p (.call 37)) [.v 0] none
(.join 0 0 (.ite (.v 2) (.p (.p (.idxA 4 1)) [.v 1, .k (.int .i64 0)] none
(.s (.st 1) [.v 3, .k (.int .i64 1)] none
(.next 0 [])))
(.next 0 []))
(.p (.p (.call 21)) [.v 0] none
(.p (.p (.lenStr)) [.v 3] none
(.p (.p (.idxA 4 1)) [.v 1, .k (.int .i64 1)] none
(.s (.st 1) [.v 5, .v 4] none
(.loop 0 [.k (.int .i64 0)] (.p (.p (.lenStr)) [.v 0] none
(.p (.p (.bin .lss)) [.v 7, .v 8] none
(.ite (.v 9) (.p (.p (.idxStr)) [.v 0, .v 7] none
(.p (.p (.call 54)) [.v 10] none
(.join 1 0 (.ite (.v 11) (.p (.p (.idxA 4 1)) [.v 1, .k (.int .i64 2)] none
(.s (.ld none) [.v 12] none
(.p (.p (.bin .add)) [.v 13, .k (.int .i64 1)] none
(.p (.p (.idxA 4 1)) [.v 1, .k (.int .i64 2)] none
(.s (.st 1) [.v 15, .v 14] none
(.next 1 []))))))
(.next 1 []))
(.p (.p (.idxStr)) [.v 0, .v 7] none
(.p (.p (.bin .eql)) [.v 12, .k (.int .u8 63)] none
(.ite (.v 13) (.p (.p (.idxA 4 1)) [.v 1, .k (.int .i64 3)] none
(.s (.ld none) [.v 14] none
(.p (.p (.bin .add)) [.v 15, .k (.int .i64 1)] none
(.p (.p (.idxA 4 1)) [.v 1, .k (.int .i64 3)] none
(.s (.st 1) [.v 17, .v 16] none
(.p (.p (.bin .add)) [.v 7, .k (.int .i64 1)] none
(.next 0 [.v 19])))))))
(.p (.p (.bin .add)) [.v 7, .k (.int .i64 1)] none
(.next 0 [.v 14]))))))))
(.s (.ld (some 4)) [.v 1] none
(.p (.wr 0 4) [.k (.agg [(.int .i64 0), (.int .i64 0), (.int .i64 0), (.int .i64 0)]), .v 10] none
(.p (.p (.fld 0 (some 4))) [.v 11] none
(.ret [.v 12])))))))))))))))
def H41 : List (Nat × Nat) := [(2, 4)]
/-- accesscontrol pathspec.isDeep -/
def T42 : T :=
(.p (.p (.tyA 72 (.agg []))) [.v 0] none
(.p (.p (.ext 0)) [.v 1] none
(.p (.p (.ext 1)) [.v 1] none
(.p (.wr 0 0) [.k (.agg []), .v 2] none
(.ret [.v 3])))))
def H42 : List (Nat × Nat) := [(3, 5)]
/-- accesscontrol pathspec.cost -/
def T43 : T :=
(.p (.p (.call 42)) [.v 0] none
(.ite (.v 1) (.ret [.k (.int .i64 0)])
(.p (.p (.call 45)) [.v 0] none
(.p (.p (.call 55)) [.v 2] none
(.p (.p (.bin .add)) [.k (.int .i64 1), .v 3] none
(.ret [.v 4]))))))
def H43 : List (Nat × Nat) := []
/-- accesscontrol pathspec.common -/
def T44 : T :=
(.p (.p (.lenStr)) [.v 0] none
(.p (.p (.bin .add)) [.v 2, .k (.int .i64 1)] none
(.s (.make [.nils]) [.v 3, .v 3] none
(.p (.p (.lenStr)) [.v 0] none
(.loop 0 [.v 5] (.p (.p (.bin .geq)) [.v 6, .k (.int .i64 0)] none
(.ite (.v 7) (.p (.p (.lenStr)) [.v 1] none
(.p (.p (.bin .add)) [.v 8, .k (.int .i64 1)] none
(.s (.make [(.int .i64 0)]) [.v 9, .v 9] none
(.p (.p (.idxS 1)) [.v 4, .v 6] none
(.s (.st 1) [.v 11, .v 10] none
(.p (.p (.lenStr)) [.v 1] none
(.loop 1 [.v 13] (.p (.p (.bin .geq)) [.v 14, .k (.int .i64 0)] none
(.ite (.v 15) (.join 2 1 (.p (.p (.lenStr)) [.v 0] none
(.p (.p (.bin .eql)) [.v 6, .v 16] none
(.p (.p (.mv)) [.v 14] (some (17, true))
(.p (.p (.mv)) [.v 1] (some (17, true))
(.p (.p (.lenStr)) [.v 19] (some (17, true))
(.p (.p (.bin .eql)) [.v 18, .v 20] (some (17, true))
(.p (.p (.pick)) [.v 17, .v 21, .k (.bool false)] none
(.ite (.v 22) (.next 2 [.k (.int .i64 0)])
(.p (.p (.lenStr)) [.v 0] none
(.p (.p (.bin .lss)) [.v 6, .v 23] none
(.p (.p (.mv)) [.v 0] (some (24, true))
(.p (.p (.mv)) [.v 6] (some (24, true))
(.p (.p (.idxStr)) [.v 25, .v 26] (some (24, true))
(.p (.p (.bin .eql)) [.v 27, .k (.int .u8 42)] (some (24, true))
(.p (.p (.pick)) [.v 24, .v 28, .k (.bool false)] none
(.ite (.v 29) (.p (.p (.bin .add)) [.v 6, .k (.int .i64 1)] none
(.p (.p (.idxS 1)) [.v 4, .v 30] none
(.s (.ld none) [.v 31] none
(.p (.p (.idxS 1)) [.v 32, .v 14] none
(.s (.ld none) [.v 33] none
(.p (.p (.lenStr)) [.v 1] none
(.p (.p (.bin .lss)) [.v 14, .v 35] none
(.ite (.v 36) (.p (.p (.idxS 1)) [.v 4, .v 6] none
(.s (.ld none) [.v 37] none
(.p (.p (.bin .add)) [.v 14, .k (.int .i64 1)] none
(.p (.p (.idxS 1)) [.v 38, .v 39] none
(.s (.ld none) [.v 40] none
(.p (.p (.idxStr)) [.v 1, .v 14] none
(.p (.p (.call 56)) [.v 42] none
(.p (.p (.bin .add)) [.v 41, .v 43] none
(.p (.p (.mn)) [.v 34, .v 44] none
(.next 2 [.v 45]))))))))))
(.next 2 [.v 34])))))))))
(.p (.p (.lenStr)) [.v 1] none
(.p (.p (.bin .lss)) [.v 14, .v 30] none
(.p (.p (.mv)) [.v 1] (some (31, true))
(.p (.p (.mv)) [.v 14] (some (31, true))
(.p (.p (.idxStr)) [.v 32, .v 33] (some (31, true))
(.p (.p (.bin .eql)) [.v 34, .k (.int .u8 42)] (some (31, true))
(.p (.p (.pick)) [.v 31, .v 35, .k (.bool false)] none
(.ite (.v 36) (.p (.p (.idxS 1)) [.v 4, .v 6] none
(.s (.ld none) [.v 37] none
(.p (.p (.bin .add)) [.v 14, .k (.int .i64 1)] none
(.p (.p (.idxS 1)) [.v 38, .v 39] none
(.s (.ld none) [.v 40] none
(.p (.p (.lenStr)) [.v 0] none
(.p (.p (.bin .lss)) [.v 6, .v 42] none
(.ite (.v 43) (.p (.p (.bin .add)) [.v 6, .k (.int .i64 1)] none
(.p (.p (.idxS 1)) [.v 4, .v 44] none
(.s (.ld none) [.v 45] none
(.p (.p (.idxS 1)) [.v 46, .v 14] none
(.s (.ld none) [.v 47] none
(.p (.p (.bin .add)) [.v 48, .k (.int .i64 1)] none
(.p (.p (.mn)) [.v 41, .v 49] none
(.next 2 [.v 50]))))))))
(.next 2 [.v 41])))))))))
(.p (.p (.lenStr)) [.v 0] none
(.p (.p (.bin .lss)) [.v 6, .v 37] none
(.p (.p (.mv)) [.v 14] (some (38, true))
(.p (.p (.mv)) [.v 1] (some (38, true))
(.p (.p (.lenStr)) [.v 40] (some (38, true))
(.p (.p (.bin .lss)) [.v 39, .v 41] (some (38, true))
(.p (.p (.pick)) [.v 38, .v 42, .k (.bool false)] none
(.p (.p (.mv)) [.v 0] (some (43, true))
(.p (.p (.mv)) [.v 6] (some (43, true))
(.p (.p (.idxStr)) [.v 44, .v 45] (some (43, true))
(.p (.p (.mv)) [.v 1] (some (43, true))
(.p (.p (.mv)) [.v 14] (some (43, true))
(.p (.p (.idxStr)) [.v 47, .v 48] (some (43, true))
(.p (.p (.bin .eql)) [.v 46, .v 49] (some (43, true))
(.p (.p (.mv)) [.v 50] (some (43, true))
(.p (.p (.mv)) [.v 0] (some (51, false))
(.p (.p (.mv)) [.v 6] (some (51, false))
(.p (.p (.idxStr)) [.v 52, .v 53] (some (51, false))
(.p (.p (.bin .eql)) [.v 54, .k (.int .u8 63)] (some (51, false))
(.p (.p (.pick)) [.v 51, .k (.bool true), .v 55] (some (43, true))
(.p (.p (.mv)) [.v 56] (some (43, true))
(.p (.p (.mv)) [.v 1] (some (57, false))
(.p (.p (.mv)) [.v 14] (some (57, false))
(.p (.p (.idxStr)) [.v 58, .v 59] (some (57, false))
(.p (.p (.bin .eql)) [.v 60, .k (.int .u8 63)] (some (57, false))
(.p (.p (.pick)) [.v 57, .k (.bool true), .v 61] (some (43, true))
(.p (.p (.pick)) [.v 43, .v 62, .k (.bool false)] none
(.ite (.v 63) (.p (.p (.bin .add)) [.v 6, .k (.int .i64 1)] none
(.p (.p (.idxS 1)) [.v 4, .v 64] none
(.s (.ld none) [.v 65] none
(.p (.p (.bin .add)) [.v 14, .k (.int .i64 1)] none
(.p (.p (.idxS 1)) [.v 66, .v 67] none
(.s (.ld none) [.v 68] none
(.p (.p (.bin .add)) [.v 69, .k (.int .i64 1)] none
(.next 2 [.v 70]))))))))
(.next 2 [.k (.int .i64 1048576)])))))))))))))))))))))))))))))))))))))))))))))))))))))
(.p (.p (.idxS 1)) [.v 4, .v 6] none
(.s (.ld none) [.v 17] none
(.p (.p (.mn)) [.v 16, .k (.int .i64 1048576)] none
(.p (.p (.idxS 1)) [.v 18, .v 14] none
(.s (.st 1) [.v 20, .v 19] none
(.p (.p (.bin .sub)) [.v 14, .k (.int .i64 1)] none
(.next 1 [.v 22]))))))))
(.p (.p (.bin .sub)) [.v 6, .k (.int .i64 1)] none
(.next 0 [.v 16])))))))))))
(.p (.p (.idxS 1)) [.v 4, .k (.int .i64 0)] none
(.s (.ld none) [.v 8] none
(.p (.p (.idxS 1)) [.v 9, .k (.int .i64 0)] none
(.s (.ld none) [.v 10] none
(.p (.p (.mx)) [.v 11, .k (.int .i64 1)] none
(.ret [.v 12])))))))))))))
def H44 : List (Nat × Nat) := []
/-- accesscontrol pathspec.textOf -/
def T45 : T :=
(.p (.p (.tyA 75 (.agg [(.str [])]))) [.v 0] none
(.p (.p (.ext 0)) [.v 1] none
(.p (.p (.ext 1)) [.v 1] none
(.p (.wr 0 1) [.k (.agg [(.str [])]), .v 2] none
(.ite (.v 3) (.p (.p (.fld 0 none)) [.v 4] none
(.ret [.v 5]))
(.ret [.k (.str [42, 42])]))))))
def H45 : List (Nat × Nat) := [(11, 5), (3, 5)]
/-- accesscontrol accesscontrolref33.common -/
def T46 : T :=
(.loop 0 [.k (.int .i64 0), .k .nils] (.p (.p (.lenStr)) [.v 0] none
(.p (.p (.bin .leq)) [.v 2, .v 4] none
(.ite (.v 5) (.p (.p (.lenStr)) [.v 1] none
(.p (.p (.bin .add)) [.v 6, .k (.int .i64 1)] none
(.s (.make [(.int .i64 0)]) [.v 7, .v 7] none
(.loop 1 [.k (.int .i64 0)] (.p (.p (.lenStr)) [.v 1] none
(.p (.p (.bin .leq)) [.v 9, .v 10] none
(.ite (.v 11) (.p (.p (.bin .eql)) [.v 2, .k (.int .i64 0)] none
(.p (.p (.mv)) [.v 9] (some (12, true))
(.p (.p (.bin .eql)) [.v 13, .k (.int .i64 0)] (some (12, true))
(.p (.p (.pick)) [.v 12, .v 14, .k (.bool false)] none
(.join 2 1 (.ite (.v 15) (.next 2 [.k (.int .i64 0)])
(.next 2 [.k (.int .i64 1048576)]))
(.p (.p (.bin .gtr)) [.v 2, .k (.int .i64 0)] none
(.p (.p (.mv)) [.v 0] (some (17, true))
(.p (.p (.mv)) [.v 2] (some (17, true))
(.p (.p (.bin .sub)) [.v 19, .k (.int .i64 1)] (some (17, true))
(.p (.p (.idxStr)) [.v 18, .v 20] (some (17, true))
(.p (.p (.bin .eql)) [.v 21, .k (.int .u8 42)] (some (17, true))
(.p (.p (.pick)) [.v 17, .v 22, .k (.bool false)] none
(.join 2 1 (.ite (.v 23) (.p (.p (.bin .sub)) [.v 2, .k (.int .i64 1)] none
(.p (.p (.idxS 1)) [.v 3, .v 24] none
(.s (.ld none) [.v 25] none
(.p (.p (.idxS 1)) [.v 26, .v 9] none
(.s (.ld none) [.v 27] none
(.p (.p (.mn)) [.v 16, .v 28] none
(.next 2 [.v 29])))))))
(.next 2 [.v 16]))
(.p (.p (.bin .gtr)) [.v 9, .k (.int .i64 0)] none
(.p (.p (.mv)) [.v 1] (some (25, true))
(.p (.p (.mv)) [.v 9] (some (25, true))
(.p (.p (.bin .sub)) [.v 27, .k (.int .i64 1)] (some (25, true))
(.p (.p (.idxStr)) [.v 26, .v 28] (some (25, true))
(.p (.p (.bin .eql)) [.v 29, .k (.int .u8 42)] (some (25, true))
(.p (.p (.pick)) [.v 25, .v 30, .k (.bool false)] none
(.join 2 1 (.ite (.v 31) (.p (.p (.bin .sub)) [.v 9, .k (.int .i64 1)] none
(.p (.p (.idxS 1)) [.v 8, .v 32] none
(.s (.ld none) [.v 33] none
(.p (.p (.mn)) [.v 24, .v 34] none
(.next 2 [.v 35])))))
(.next 2 [.v 24]))
(.p (.p (.bin .gtr)) [.v 2, .k (.int .i64 0)] none
(.p (.p (.mv)) [.v 9] (some (33, true))
(.p (.p (.bin .gtr)) [.v 34, .k (.int .i64 0)] (some (33, true))
(.p (.p (.pick)) [.v 33, .v 35, .k (.bool false)] none
(.p (.p (.mv)) [.v 0] (some (36, true))
(.p (.p (.mv)) [.v 2] (some (36, true))
(.p (.p (.bin .sub)) [.v 38, .k (.int .i64 1)] (some (36, true))
(.p (.p (.idxStr)) [.v 37, .v 39] (some (36, true))
(.p (.p (.bin .neq)) [.v 40, .k (.int .u8 42)] (some (36, true))
(.p (.p (.pick)) [.v 36, .v 41, .k (.bool false)] none
(.p (.p (.mv)) [.v 1] (some (42, true))
(.p (.p (.mv)) [.v 9] (some (42, true))
(.p (.p (.bin .sub)) [.v 44, .k (.int .i64 1)] (some (42, true))
(.p (.p (.idxStr)) [.v 43, .v 45] (some (42, true))
(.p (.p (.bin .neq)) [.v 46, .k (.int .u8 42)] (some (42, true))
(.p (.p (.pick)) [.v 42, .v 47, .k (.bool false)] none
(.p (.p (.mv)) [.v 0] (some (48, true))
(.p (.p (.mv)) [.v 2] (some (48, true))
(.p (.p (.bin .sub)) [.v 50, .k (.int .i64 1)] (some (48, true))
(.p (.p (.idxStr)) [.v 49, .v 51] (some (48, true))
(.p (.p (.mv)) [.v 1] (some (48, true))
(.p (.p (.mv)) [.v 9] (some (48, true))
(.p (.p (.bin .sub)) [.v 54, .k (.int .i64 1)] (some (48, true))
(.p (.p (.idxStr)) [.v 53, .v 55] (some (48, true))
(.p (.p (.bin .eql)) [.v 52, .v 56] (some (48, true))
(.p (.p (.mv)) [.v 57] (some (48, true))
(.p (.p (.mv)) [.v 0] (some (58, false))
(.p (.p (.mv)) [.v 2] (some (58, false))
(.p (.p (.bin .sub)) [.v 60, .k (.int .i64 1)] (some (58, false))
(.p (.p (.idxStr)) [.v 59, .v 61] (some (58, false))
(.p (.p (.bin .eql)) [.v 62, .k (.int .u8 63)] (some (58, false))
(.p (.p (.pick)) [.v 58, .k (.bool true), .v 63] (some (48, true))
(.p (.p (.mv)) [.v 64] (some (48, true))
(.p (.p (.mv)) [.v 1] (some (65, false))
(.p (.p (.mv)) [.v 9] (some (65, false))
(.p (.p (.bin .sub)) [.v 67, .k (.int .i64 1)] (some (65, false))
(.p (.p (.idxStr)) [.v 66, .v 68] (some (65, false))
(.p (.p (.bin .eql)) [.v 69, .k (.int .u8 63)] (some (65, false))
(.p (.p (.pick)) [.v 65, .k (.bool true), .v 70] (some (48, true))
(.p (.p (.pick)) [.v 48, .v 71, .k (.bool false)] none
(.join 2 1 (.ite (.v 72) (.p (.p (.bin .sub)) [.v 2, .k (.int .i64 1)] none
(.p (.p (.idxS 1)) [.v 3, .v 73] none
(.s (.ld none) [.v 74] none
(.p (.p (.bin .sub)) [.v 9, .k (.int .i64 1)] none
(.p (.p (.idxS 1)) [.v 75, .v 76] none
(.s (.ld none) [.v 77] none
(.p (.p (.bin .add)) [.v 78, .k (.int .i64 1)] none
(.p (.p (.mn)) [.v 32, .v 79] none
(.next 2 [.v 80])))))))))
(.next 2 [.v 32]))
(.p (.p (.bin .gtr)) [.v 2, .k (.int .i64 0)] none
(.p (.p (.mv)) [.v 9] (some (74, true))
(.p (.p (.bin .gtr)) [.v 75, .k (.int .i64 0)] (some (74, true))
(.p (.p (.pick)) [.v 74, .v 76, .k (.bool false)] none
(.p (.p (.mv)) [.v 0] (some (77, true))
(.p (.p (.mv)) [.v 2] (some (77, true))
(.p (.p (.bin .sub)) [.v 79, .k (.int .i64 1)] (some (77, true))
(.p (.p (.idxStr)) [.v 78, .v 80] (some (77, true))
(.p (.p (.bin .eql)) [.v 81, .k (.int .u8 42)] (some (77, true))
(.p (.p (.pick)) [.v 77, .v 82, .k (.bool false)] none
(.p (.p (.mv)) [.v 1] (some (83, true))
(.p (.p (.mv)) [.v 9] (some (83, true))
(.p (.p (.bin .sub)) [.v 85, .k (.int .i64 1)] (some (83, true))
(.p (.p (.idxStr)) [.v 84, .v 86] (some (83, true))
(.p (.p (.bin .neq)) [.v 87, .k (.int .u8 42)] (some (83, true))
(.p (.p (.pick)) [.v 83, .v 88, .k (.bool false)] none
(.join 2 1 (.ite (.v 89) (.p (.p (.bin .sub)) [.v 9, .k (.int .i64 1)] none
(.p (.p (.idxS 1)) [.v 8, .v 90] none
(.s (.ld none) [.v 91] none
(.p (.p (.bin .add)) [.v 92, .k (.int .i64 1)] none
(.p (.p (.mn)) [.v 73, .v 93] none
(.next 2 [.v 94]))))))
(.next 2 [.v 73]))
(.p (.p (.bin .gtr)) [.v 2, .k (.int .i64 0)] none
(.p (.p (.mv)) [.v 9] (some (91, true))
(.p (.p (.bin .gtr)) [.v 92, .k (.int .i64 0)] (some (91, true))
(.p (.p (.pick)) [.v 91, .v 93, .k (.bool false)] none
(.p (.p (.mv)) [.v 1] (some (94, true))
(.p (.p (.mv)) [.v 9] (some (94, true))
(.p (.p (.bin .sub)) [.v 96, .k (.int .i64 1)] (some (94, true))
(.p (.p (.idxStr)) [.v 95, .v 97] (some (94, true))
(.p (.p (.bin .eql)) [.v 98, .k (.int .u8 42)] (some (94, true))
(.p (.p (.pick)) [.v 94, .v 99, .k (.bool false)] none
(.p (.p (.mv)) [.v 0] (some (100, true))
(.p (.p (.mv)) [.v 2] (some (100, true))
(.p (.p (.bin .sub)) [.v 102, .k (.int .i64 1)] (some (100, true))
(.p (.p (.idxStr)) [.v 101, .v 103] (some (100, true))
(.p (.p (.bin .neq)) [.v 104, .k (.int .u8 42)] (some (100, true))
(.p (.p (.pick)) [.v 100, .v 105, .k (.bool false)] none
(.join 2 1 (.ite (.v 106) (.p (.p (.bin .sub)) [.v 2, .k (.int .i64 1)] none
(.p (.p (.idxS 1)) [.v 3, .v 107] none
(.s (.ld none) [.v 108] none
(.p (.p (.idxS 1)) [.v 109, .v 9] none
(.s (.ld none) [.v 110] none
(.p (.p (.bin .add)) [.v 111, .k (.int .i64 1)] none
(.p (.p (.mn)) [.v 90, .v 112] none
(.next 2 [.v 113]))))))))
(.next 2 [.v 90]))
(.p (.p (.idxS 1)) [.v 8, .v 9] none
(.s (.st 1) [.v 108, .v 107] none
(.p (.p (.bin .add)) [.v 9, .k (.int .i64 1)] none
(.next 1 [.v 110]))))))))))))))))))))))))))))))))))))))))))))))))))))))))))))))))))))))))))))))))))))))))))))))))))))
(.p (.p (.bslice true 1)) [.v 8] none
(.s (.app true 1) [.v 3, .v 12] none
(.p (.p (.bin .add)) [.v 2, .k (.int .i64 1)] none
(.next 0 [.v 14, .v 13])))))))))))
(.p (.p (.lenStr)) [.v 0] none
(.p (.p (.idxS 1)) [.v 3, .v 6] none
(.s (.ld none) [.v 7] none
(.p (.p (.lenStr)) [.v 1] none
(.p (.p (.idxS 1)) [.v 8, .v 9] none
(.s (.ld none) [.v 10] none
(.p (.p (.bin .eql)) [.v 11, .k (.int .i64 0)] none
(.ite (.v 12) (.ret [.k (.int .i64 1)])
(.p (.p (.mn)) [.v 11, .k (.int .i64 1048576)] none
(.ret [.v 13]))))))))))))))
def H46 : List (Nat × Nat) := []
/-- accesscontrol accesscontrolref33.least -/
def T47 : T :=
(.p (.p (.call 46)) [.v 0, .k (.str [42])] none
(.ret [.v 1]))
def H47 : List (Nat × Nat) := []
/-- accesscontrol pathspec.divided -/
def T48 : T :=
(.p (.p (.bin .eql)) [.v 0, .k (.str [47])] none
(.ite (.v 1) (.ret [.k .nils, .k (.bool true)])
(.p (.p (.call 57)) [.v 0, .k (.str [47])] none
(.p (.p (.ext 0)) [.v 2] none
(.p (.p (.ext 1)) [.v 2] none
(.p (.p (.un .not)) [.v 4] none
(.p (.p (.mv)) [.v 0] (some (5, false))
(.p (.p (.lenStr)) [.v 6] (some (5, false))
(.p (.p (.bin .gtr)) [.v 7, .k (.int .i64 256)] (some (5, false))
(.p (.p (.pick)) [.v 5, .k (.bool true), .v 8] none
(.ite (.v 9) (.ret [.k .nils, .k (.bool false)])
(.p (.p (.call 58)) [.v 3, .k (.str [47])] none
(.ret [.v 10, .k (.bool true)])))))))))))))
def H48 : List (Nat × Nat) := []
/-- accesscontrol pathspec.pathByte -/
def T50 : T :=
(.p (.p (.bin .geq)) [.v 0, .k (.int .u8 33)] none
(.p (.p (.mv)) [.v 0] (some (1, true))
(.p (.p (.bin .leq)) [.v 2, .k (.int .u8 126)] (some (1, true))
(.p (.p (.pick)) [.v 1, .v 3, .k (.bool false)] none
(.p (.p (.mv)) [.v 0] (some (4, true))
(.p (.p (.conv .i32)) [.v 5] (some (4, true))
(.p (.p (.call 60)) [.k (.str [47, 42, 63, 34]), .v 6] (some (4, true))
(.p (.p (.un .not)) [.v 7] (some (4, true))
(.p (.p (.pick)) [.v 4, .v 8, .k (.bool false)] none
(.ret [.v 9]))))))))))
def H50 : List (Nat × Nat) := []
/-- accesscontrol accesscontrolref33.element -/
def T51 : T :=
(.p (.p (.mv)) [.v 0] (some (1, true))
(.p (.p (.bin .eql)) [.v 2, .k (.str [42, 42])] (some (1, true))
(.p (.p (.pick)) [.v 1, .v 3, .k (.bool false)] none
(.ite (.v 4) (.ret [.k (.bool true)])
(.loop 0 [.k (.int .i64 0), .k (.bool false)] (.p (.p (.lenStr)) [.v 0] none
(.p (.p (.bin .lss)) [.v 5, .v 7] none
(.ite (.v 8) (.p (.p (.idxStr)) [.v 0, .v 5] none
(.p (.p (.bin .eql)) [.v 9, .k (.int .u8 42)] none
(.p (.p (.mv)) [.v 5] (some (10, true))
(.p (.p (.bin .eql)) [.v 11, .k (.int .i64 0)] (some (10, true))
(.p (.p (.mv)) [.v 12] (some (10, true))
(.p (.p (.mv)) [.v 0] (some (13, false))
(.p (.p (.mv)) [.v 5] (some (13, false))
(.p (.p (.bin .sub)) [.v 15, .k (.int .i64 1)] (some (13, false))
(.p (.p (.idxStr)) [.v 14, .v 16] (some (13, false))
(.p (.p (.bin .neq)) [.v 17, .k (.int .u8 42)] (some (13, false))
(.p (.p (.pick)) [.v 13, .k (.bool true), .v 18] (some (10, true))
(.p (.p (.pick)) [.v 10, .v 19, .k (.bool false)] none
(.p (.p (.idxStr)) [.v 0, .v 5] none
(.p (.p (.call 54)) [.v 21] none
(.p (.p (.un .not)) [.v 22] none
(.p (.p (.mv)) [.v 1] (some (23, true))
(.p (.p (.mv)) [.v 24] (some (23, true))
(.p (.p (.mv)) [.v 0] (some (25, true))
(.p (.p (.mv)) [.v 5] (some (25, true))
(.p (.p (.idxStr)) [.v 26, .v 27] (some (25, true))
(.p (.p (.bin .eql)) [.v 28, .k (.int .u8 63)] (some (25, true))
(.p (.p (.mv)) [.v 29] (some (25, true))
(.p (.p (.mv)) [.v 20] (some (30, false))
(.p (.p (.pick)) [.v 30, .k (.bool true), .v 31] (some (25, true))
(.p (.p (.pick)) [.v 25, .v 32, .k (.bool false)] (some (23, true))
(.p (.p (.un .not)) [.v 33] (some (23, true))
(.p (.p (.pick)) [.v 23, .v 34, .k (.bool false)] none
(.ite (.v 35) (.ret [.k (.bool false)])
(.p (.p (.bin .add)) [.v 5, .k (.int .i64 1)] none
(.next 0 [.v 36, .v 6]))))))))))))))))))))))))))))))
(.p (.p (.lenStr)) [.v 0] none
(.p (.p (.bin .gtr)) [.v 9, .k (.int .i64 0)] none
(.ret [.v 10])))))))))))
def H51 : List (Nat × Nat) := []
/-- accesscontrol pathspec.glob -/
def T52 : T :=
(.p (.p (.lenStr)) [.v 1] none
(.p (.p (.bin .add)) [.v 2, .k (.int .i64 1)] none
(.s (.make [(.bool false)]) [.v 3, .v 3] none
(.p (.p (.idxS 1)) [.v 4, .k (.int .i64 0)] none
(.s (.st 1) [.v 5, .k (.bool true)] none
(.p (.p (.lenStr)) [.v 0] none
(.loop 0 [.k (.int .i64 0), .v 4] (.p (.p (.bin .lss)) [.v 8, .v 7] none
(.ite (.v 10) (.p (.p (.lenStr)) [.v 1] none
(.p (.p (.bin .add)) [.v 11, .k (.int .i64 1)] none
(.s (.make [(.bool false)]) [.v 12, .v 12] none
(.p (.p (.lenSl)) [.v 13] none
(.loop 1 [.k (.int .i64 0)] (.p (.p (.bin .lss)) [.v 15, .v 14] none
(.ite (.v 16) (.p (.p (.idxStr)) [.v 0, .v 8] none
(.p (.p (.bin .eql)) [.v 17, .k (.int .u8 42)] none
(.ite (.v 18) (.p (.p (.idxS 1)) [.v 9, .v 15] none
(.s (.ld none) [.v 19] none
(.p (.p (.mv)) [.v 15] (some (20, false))
(.p (.p (.bin .gtr)) [.v 21, .k (.int .i64 0)] (some (20, false))
(.p (.p (.mv)) [.v 22] (some (20, false))
(.p (.p (.mv)) [.v 13] (some (23, true))
(.p (.p (.mv)) [.v 15] (some (23, true))
(.p (.p (.bin .sub)) [.v 25, .k (.int .i64 1)] (some (23, true))
(.p (.p (.idxS 1)) [.v 24, .v 26] (some (23, true))
(.s (.ld none) [.v 27] (some (23, true))
(.p (.p (.pick)) [.v 23, .v 28, .k (.bool false)] (some (20, false))
(.p (.p (.pick)) [.v 20, .k (.bool true), .v 29] none
(.p (.p (.idxS 1)) [.v 13, .v 15] none
(.s (.st 1) [.v 31, .v 30] none
(.p (.p (.bin .add)) [.v 15, .k (.int .i64 1)] none
(.next 1 [.v 33]))))))))))))))))
(.p (.p (.bin .gtr)) [.v 15, .k (.int .i64 0)] none
(.ite (.v 19) (.p (.p (.bin .sub)) [.v 15, .k (.int .i64 1)] none
(.p (.p (.idxS 1)) [.v 9, .v 20] none
(.s (.ld none) [.v 21] none
(.p (.p (.mv)) [.v 0] (some (22, true))
(.p (.p (.mv)) [.v 8] (some (22, true))
(.p (.p (.idxStr)) [.v 23, .v 24] (some (22, true))
(.p (.p (.bin .eql)) [.v 25, .k (.int .u8 63)] (some (22, true))
(.p (.p (.mv)) [.v 26] (some (22, true))
(.p (.p (.mv)) [.v 0] (some (27, false))
(.p (.p (.mv)) [.v 8] (some (27, false))
(.p (.p (.idxStr)) [.v 28, .v 29] (some (27, false))
(.p (.p (.mv)) [.v 1] (some (27, false))
(.p (.p (.mv)) [.v 15] (some (27, false))
(.p (.p (.bin .sub)) [.v 32, .k (.int .i64 1)] (some (27, false))
(.p (.p (.idxStr)) [.v 31, .v 33] (some (27, false))
(.p (.p (.bin .eql)) [.v 30, .v 34] (some (27, false))
(.p (.p (.pick)) [.v 27, .k (.bool true), .v 35] (some (22, true))
(.p (.p (.pick)) [.v 22, .v 36, .k (.bool false)] none
(.p (.p (.idxS 1)) [.v 13, .v 15] none
(.s (.st 1) [.v 38, .v 37] none
(.p (.p (.bin .add)) [.v 15, .k (.int .i64 1)] none
(.next 1 [.v 40]))))))))))))))))))))))
(.p (.p (.bin .add)) [.v 15, .k (.int .i64 1)] none
(.next 1 [.v 20])))))))
(.p (.p (.bin .add)) [.v 8, .k (.int .i64 1)] none
(.next 0 [.v 17, .v 13])))))))))
(.p (.p (.lenStr)) [.v 1] none
(.p (.p (.idxS 1)) [.v 9, .v 11] none
(.s (.ld none) [.v 12] none
(.ret [.v 13])))))))))))))
def H52 : List (Nat × Nat) := []
/-- accesscontrol accesscontrolref33.plain -/
def T54 : T :=
(.p (.p (.bin .geq)) [.v 0, .k (.int .u8 33)] none
(.p (.p (.mv)) [.v 0] (some (1, true))
(.p (.p (.bin .leq)) [.v 2, .k (.int .u8 126)] (some (1, true))
(.p (.p (.pick)) [.v 1, .v 3, .k (.bool false)] none
(.p (.p (.mv)) [.v 0] (some (4, true))
(.p (.p (.bin .neq)) [.v 5, .k (.int .u8 47)] (some (4, true))
(.p (.p (.pick)) [.v 4, .v 6, .k (.bool false)] none
(.p (.p (.mv)) [.v 0] (some (7, true))
(.p (.p (.bin .neq)) [.v 8, .k (.int .u8 42)] (some (7, true))
(.p (.p (.pick)) [.v 7, .v 9, .k (.bool false)] none
(.p (.p (.mv)) [.v 0] (some (10, true))
(.p (.p (.bin .neq)) [.v 11, .k (.int .u8 63)] (some (10, true))
(.p (.p (.pick)) [.v 10, .v 12, .k (.bool false)] none
(.p (.p (.mv)) [.v 0] (some (13, true))
(.p (.p (.bin .neq)) [.v 14, .k (.int .u8 34)] (some (13, true))
(.p (.p (.pick)) [.v 13, .v 15, .k (.bool false)] none
(.ret [.v 16])))))))))))))))))
def H54 : List (Nat × Nat) := []
/-- accesscontrol pathspec.shortest -/
def T55 : T :=
(.p (.p (.call 44)) [.v 0, .k (.str [42])] none
(.ret [.v 1]))
def H55 : List (Nat × Nat) := []
/-- accesscontrol pathspec.length -/
def T56 : T :=
(.p (.p (.bin .eql)) [.v 0, .k (.int .u8 42)] none
(.ite (.v 1) (.ret [.k (.int .i64 0)])
(.ret [.k (.int .i64 1)])))
def H56 : List (Nat × Nat) := []
/-- strings.CutPrefix -/
def T57 : T :=
(.p (.p (.call 63)) [.v 0, .v 1] none
(.p (.p (.ext 0)) [.v 2] none
(.p (.p (.ext 1)) [.v 2] none
(.ret [.v 3, .v 4]))))
def H57 : List (Nat × Nat) := []
/-- strings.Split -/
def T58 : T :=
(.p (.p (.call 64)) [.v 0, .v 1, .k (.int .i64 0), .k (.int .i64 (-1))] none
(.ret [.v 2]))
def H58 : List (Nat × Nat) := []
/-- internal stringslite.CutPrefix -/
def T63 : T :=
(.p (.p (.call 67)) [.v 0, .v 1] none
(.p (.p (.un .not)) [.v 2] none
(.ite (.v 3) (.ret [.v 0, .k (.bool false)])
(.p (.p (.lenStr)) [.v 1] none
(.p (.p (.slcS true false)) [.v 0, .v 4] none
(.ret [.v 5, .k (.bool true)]))))))
def H63 : List (Nat × Nat) := []
/-- internal stringslite.HasPrefix -/
def T67 : T :=
(.p (.p (.lenStr)) [.v 0] none
(.p (.p (.lenStr)) [.v 1] none
(.p (.p (.bin .geq)) [.v 2, .v 3] none
(.p (.p (.mv)) [.v 0] (some (4, true))
(.p (.p (.mv)) [.v 1] (some (4, true))
(.p (.p (.lenStr)) [.v 6] (some (4, true))
(.p (.p (.slcS false true)) [.v 5, .v 7] (some (4, true))
(.p (.p (.mv)) [.v 1] (some (4, true))
(.p (.p (.bin .eql)) [.v 8, .v 9] (some (4, true))
(.p (.p (.pick)) [.v 4, .v 10, .k (.bool false)] none
(.ret [.v 11])))))))))))
def H67 : List (Nat × Nat) := []
/-- (accesscontrol pathspec.deep).special -/
def T94 : T :=
(.p .box [.v 0] none
(.ret [.k (.bool true)]))
def H94 : List (Nat × Nat) := [(1, 3)]
/-- (accesscontrol pathspec.one).special -/
def T95 : T :=
(.p .box [.v 0] none
(.p (.p (.fld 0 none)) [.v 1] none
(.p (.p (.call 96)) [.v 2, .k (.str [63, 42])] none
(.ret [.v 3]))))
def H95 : List (Nat × Nat) := [(3, 3), (1, 3)]

end Go.Proofs.YtdnoonnanhnkaaaDoor
