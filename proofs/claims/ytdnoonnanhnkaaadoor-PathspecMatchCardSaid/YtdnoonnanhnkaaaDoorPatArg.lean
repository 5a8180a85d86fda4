/- What the arguments of the laws read as. -/
import Derived.Test.YtdnoonnanhnkaaaDoorPatK2
import Derived.Test.YtdnoonnanhnkaaaDoorGlue
import Derived.Test.YtdnoonnanhnkaaaDoorChecked
import Derived.KernelRfl
set_option linter.unusedVariables false
set_option maxRecDepth 100000
namespace Go.Proofs.YtdnoonnanhnkaaaDoor
open Go

theorem dty_int {d : DVal} (h : DTyArg Tryd.prog 3 d) : ∃ n : Int, d = .int .i64 n := by
  have e : Tryd.prog.underlying 3 = some (.int .i64) := Tryd.underlying3
  simp only [DTyArg, DTy, e, List.cons.injEq, and_true] at h
  obtain ⟨n, h, -⟩ := h
  exact ⟨n, h⟩

theorem dty_str {d : DVal} (h : DTyArg Tryd.prog 9 d) : ∃ s : Bs, d = .str s := by
  have e : Tryd.prog.underlying 9 = some .string := Tryd.underlying9
  simp only [DTyArg, DTy, e, List.cons.injEq, and_true] at h
  obtain ⟨s, h, -⟩ := h
  exact ⟨s, h⟩

theorem dty_rule {k : Nat} {cs : List DVal} (h : DTy Tryd.prog (k + 6) 43 cs) : ∃ r : Rule, cs = r.row := by
  simp only [DTy, Tryd.underlying43, Tryd.underlying41, Tryd.underlying39, Tryd.underlying37, Tryd.underlying35, Tryd.underlying9, Tryd.underlying3, List.foldr] at h
  obtain ⟨a, b, rfl, ⟨p, rfl, -⟩, a2, b2, rfl, ⟨kd, rfl, -⟩, a3, b3, rfl, ⟨a4, b4, rfl, ⟨x1, rfl, -⟩, a5, b5, rfl, ⟨x2, rfl, -⟩, a6, b6, rfl, ⟨x3, rfl, -⟩, a7, b7, rfl, ⟨a8, b8, rfl, ⟨a9, b9, rfl, ⟨x4, rfl, -⟩, a10, b10, rfl, ⟨x5, rfl, -⟩, rfl⟩, a11, b11, rfl, ⟨a12, b12, rfl, ⟨x6, rfl, -⟩, a13, b13, rfl, ⟨x7, rfl, -⟩, rfl⟩, rfl⟩, rfl⟩, rfl⟩ := h
  exact ⟨⟨p, kd, x1, x2, x3, x4, x5, x6, x7⟩, rfl⟩

theorem rows_rules : ∀ {es : List (List DVal)}, (∀ r ∈ es, ∃ q : Rule, r = q.row) → ∃ l : List Rule, es = ruleRows l
  | [], _ => ⟨[], rfl⟩
  | e :: es, h => by
    obtain ⟨q, rfl⟩ := h e (by simp)
    obtain ⟨l, rfl⟩ := rows_rules (es := es) fun r hr => h r (by simp [hr])
    exact ⟨q :: l, rfl⟩

theorem dty_rules {d : DVal} (h : DTyArg Tryd.prog 34 d) : ∃ (z : Bool) (rs : List Rule), d = rulesD z rs := by
  have e := Tryd.underlying34
  unfold DTyArg at h
  rw [e] at h
  simp only at h
  unfold DTy at h
  rw [e] at h
  simp only [List.cons.injEq, and_true] at h
  obtain ⟨z, es, rfl, h1, -⟩ := h
  obtain ⟨rs, rfl⟩ := rows_rules (es := es) fun r hr => dty_rule (k := 13) (h1 r hr)
  exact ⟨z, rs, rfl⟩

end Go.Proofs.YtdnoonnanhnkaaaDoor
