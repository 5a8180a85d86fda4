/- The law's examples of the library's chapter hold. -/
import Derived.Test.YtdnoonnanhnkaaaDoorPatV2
import Derived.KernelRfl
set_option linter.unusedVariables false
set_option linter.unusedSimpArgs false
set_option maxRecDepth 100000
set_option maxHeartbeats 4000000
namespace Go.Proofs.YtdnoonnanhnkaaaDoor
open Go

def exRules : List Rule := [⟨[47, 101, 116, 99, 47, 42], 0, 0, 0, 0, 0, 0, 0, 0⟩, ⟨[47, 101, 116, 99, 47, 97, 46, 99, 111, 110, 102], 3, 0, 0, 0, 0, 0, 0, 0⟩, ⟨[47, 101, 116, 99, 47, 42, 46, 99, 111, 110, 102], 0, 0, 0, 0, 0, 0, 0, 0⟩, ⟨[47, 42, 42], 0, 0, 0, 0, 0, 0, 0, 0⟩]

theorem over1 : overV [47, 97, 47, 42] [47, 97, 47, 98, 42] = true := over_both (s := [47, 97, 47, 98]) (by kernel_rfl) (by kernel_rfl)
theorem over3 : overV [47, 97, 47, 42, 42] [47, 97] = true := over_both (s := [47, 97]) (by kernel_rfl) (by kernel_rfl)
theorem over2 : overV [47, 97, 47, 63] [47, 97, 47, 98, 99] = false := by
  unfold overV
  have h1 : parseV true [47, 97, 47, 63] = some [[97], [63]] := by kernel_rfl
  have h2 : parseV true [47, 97, 47, 98, 99] = some [[97], [98, 99]] := by kernel_rfl
  rw [h1, h2]
  have c : comV [63] [98, 99] = 1048576 := by
    unfold comV
    simp [dp, sB, k2B]
  have c2 : comV [97] [97] = 1 := by
    unfold comV
    simp [dp, sB, k2B]
  simp [dp, sT, k1T, k2T, c, c2]

theorem awake_true {n : Nat} (hn : 200400 ≤ n) : cpJ PR n 11 [] = some (.bool true) := by
  obtain ⟨n, rfl⟩ : ∃ m, n = m + 1 := ⟨n - 1, by omega⟩
  have m0 := e22 (n := n) (by omega) [47, 101, 116, 99, 47, 42, 46, 99, 111, 110, 102] [47, 101, 116, 99, 47, 97, 46, 99, 111, 110, 102] (by simp) (by simp)
  rw [show matchV [47, 101, 116, 99, 47, 42, 46, 99, 111, 110, 102] [47, 101, 116, 99, 47, 97, 46, 99, 111, 110, 102] = true by kernel_rfl] at m0
  have m1 := e22 (n := n) (by omega) [47, 101, 116, 99, 47, 42, 46, 99, 111, 110, 102] [47, 101, 116, 99, 47, 46, 99, 111, 110, 102] (by simp) (by simp)
  rw [show matchV [47, 101, 116, 99, 47, 42, 46, 99, 111, 110, 102] [47, 101, 116, 99, 47, 46, 99, 111, 110, 102] = true by kernel_rfl] at m1
  have m2 := e22 (n := n) (by omega) [47, 101, 116, 99, 47, 42, 46, 99, 111, 110, 102] [47, 101, 116, 99, 47, 97, 47, 98, 46, 99, 111, 110, 102] (by simp) (by simp)
  rw [show matchV [47, 101, 116, 99, 47, 42, 46, 99, 111, 110, 102] [47, 101, 116, 99, 47, 97, 47, 98, 46, 99, 111, 110, 102] = false by kernel_rfl] at m2
  have m3 := e22 (n := n) (by omega) [47, 101, 116, 99, 47, 42, 46, 99, 111, 110, 102] [47, 101, 116, 99, 47, 97, 46, 99, 111, 110, 102, 105, 103] (by simp) (by simp)
  rw [show matchV [47, 101, 116, 99, 47, 42, 46, 99, 111, 110, 102] [47, 101, 116, 99, 47, 97, 46, 99, 111, 110, 102, 105, 103] = false by kernel_rfl] at m3
  have m4 := e22 (n := n) (by omega) [47, 100, 97, 116, 97, 47, 42, 42, 47, 120] [47, 100, 97, 116, 97, 47, 120] (by simp) (by simp)
  rw [show matchV [47, 100, 97, 116, 97, 47, 42, 42, 47, 120] [47, 100, 97, 116, 97, 47, 120] = true by kernel_rfl] at m4
  have m5 := e22 (n := n) (by omega) [47, 100, 97, 116, 97, 47, 42, 42, 47, 120] [47, 100, 97, 116, 97, 47, 97, 47, 98, 47, 120] (by simp) (by simp)
  rw [show matchV [47, 100, 97, 116, 97, 47, 42, 42, 47, 120] [47, 100, 97, 116, 97, 47, 97, 47, 98, 47, 120] = true by kernel_rfl] at m5
  have m6 := e22 (n := n) (by omega) [47, 42, 42] [47] (by simp) (by simp)
  rw [show matchV [47, 42, 42] [47] = true by kernel_rfl] at m6
  have s0 := e20 (n := n) (by omega) [47, 101, 116, 99, 47, 42, 46, 99, 111, 110, 102] (by simp)
  rw [show stemP [47, 101, 116, 99, 47, 42, 46, 99, 111, 110, 102] = [47, 101, 116, 99] by kernel_rfl] at s0
  have s1 := e20 (n := n) (by omega) [47, 42, 42] (by simp)
  rw [show stemP [47, 42, 42] = [47] by kernel_rfl] at s1
  have l0 := e24 (n := n) (by omega) [47, 101, 116, 99, 47, 42] [47, 101, 116, 99, 47, 42, 46, 99, 111, 110, 102] (by simp) (by simp)
  rw [show lessV [47, 101, 116, 99, 47, 42] [47, 101, 116, 99, 47, 42, 46, 99, 111, 110, 102] = true by kernel_rfl] at l0
  have l1 := e24 (n := n) (by omega) [47, 101, 116, 99, 47, 42, 46, 99, 111, 110, 102] [47, 101, 116, 99, 47, 97, 46, 99, 111, 110, 102] (by simp) (by simp)
  rw [show lessV [47, 101, 116, 99, 47, 42, 46, 99, 111, 110, 102] [47, 101, 116, 99, 47, 97, 46, 99, 111, 110, 102] = true by kernel_rfl] at l1
  have o0 := e28 (n := n) (by omega) [47, 97, 47, 42] [47, 97, 47, 98, 42] (by simp) (by simp)
  rw [over1] at o0
  have o1 := e28 (n := n) (by omega) [47, 97, 47, 63] [47, 97, 47, 98, 99] (by simp) (by simp)
  rw [over2] at o1
  have o2 := e28 (n := n) (by omega) [47, 97, 47, 42, 42] [47, 97] (by simp) (by simp)
  rw [over3] at o2
  have c0 := e16 (n := n) (by omega) [47, 97, 47] (by simp)
  rw [show chkV true [47, 97, 47] = 9 by kernel_rfl] at c0
  have c1 := e16 (n := n) (by omega) [] (by simp)
  rw [show chkV true [] = 9 by kernel_rfl] at c1
  have c2 := e16 (n := n) (by omega) [47, 97, 42, 42, 98] (by simp)
  rw [show chkV true [47, 97, 42, 42, 98] = 9 by kernel_rfl] at c2
  have c3 := e16 (n := n) (by omega) [47, 42, 42] (by simp)
  rw [show chkV true [47, 42, 42] = 0 by kernel_rfl] at c3
  have p0 := e18 (n := n) (by omega) [47, 97, 47, 98] (by simp)
  rw [show chkV false [47, 97, 47, 98] = 0 by kernel_rfl] at p0
  have p1 := e18 (n := n) (by omega) [47, 97, 42] (by simp)
  rw [show chkV false [47, 97, 42] = 9 by kernel_rfl] at p1
  have k0 := e26s (n := n) 1 exRules (by decide) (by decide) [47, 101, 116, 99, 47, 97, 46, 99, 111, 110, 102] (by simp) 1 (by omega)
  rw [show lookV exRules [47, 101, 116, 99, 47, 97, 46, 99, 111, 110, 102] 1 exRules 0 (-1) = 2 by kernel_rfl] at k0
  have k1 := e26s (n := n) 1 exRules (by decide) (by decide) [47, 101, 116, 99, 47, 97, 46, 99, 111, 110, 102] (by simp) 3 (by omega)
  rw [show lookV exRules [47, 101, 116, 99, 47, 97, 46, 99, 111, 110, 102] 3 exRules 0 (-1) = 1 by kernel_rfl] at k1
  have k2 := e26s (n := n) 1 exRules (by decide) (by decide) [47, 120] (by simp) 3 (by omega)
  rw [show lookV exRules [47, 120] 3 exRules 0 (-1) = 3 by kernel_rfl] at k2
  simp only [exRules, ruleRows, List.map_cons, List.map_nil, Rule.row] at k0 k1 k2
  have w := e12 (n := n) (by omega) 4
  rw [show kindV 4 = .tup [.str [115, 111, 99, 107, 101, 116], .bool true] by rfl] at w
  have d := e14 (n := n) (by omega) [100, 105, 114, 101, 99, 116, 111, 114, 121]
  rw [show kofV [100, 105, 114, 101, 99, 116, 111, 114, 121] = .tup [.int .i64 2, .bool true] by kernel_rfl] at d
  rw [u11]
  simp -implicitDefEqProofs [D11, m0, m1, m2, m3, m4, m5, m6, s0, s1, l0, l1, o0, o1, o2, c0, c1, c2, c3, p0, p1, k0, k1, k2, w, d]

end Go.Proofs.YtdnoonnanhnkaaaDoor
