/- The program in trees is right: every function of it, and what it asks of the library. -/
import Derived.Test.YtdnoonnanhnkaaaDoorPatLays
import Derived.Test.YtdnoonnanhnkaaaDoorPatK
import Derived.Test.YtdnoonnanhnkaaaDoorPatU
set_option linter.unusedVariables false
set_option maxRecDepth 100000
namespace Go.Proofs.YtdnoonnanhnkaaaDoor
open Go Go.Shelf

theorem table_ok (m : Int) : AllJ Tryd.prog [(0, .int .i64 m)] table :=
  ⟨prim_contains lays144 m (by simp [ren144]), prim_count lays138, prim_containsRune lays151, prim_containsAny lays150 (by kernel_rfl), prim_split lays221 (by kernel_rfl) m (by simp [ren221]), K3, K4, K5, K6, K7, K8, K9, K10, K11, K12, K13, K14, K15, K16, K17, K18, K19, K20, K21, K22, K23, K24, K25, K26, K27, K28, K29, K30, K31, K32, K33, K34, K35, K36, K37, K38, K39, K40, K41, K42, K43, K44, K45, K46, K47, K48, K50, K51, K52, K54, K55, K56, K57, K58, K63, K67, K94, K95, trivial⟩

end Go.Proofs.YtdnoonnanhnkaaaDoor
