/- What arguments with names read as, and the examples of the library's chapter once more, with more fuel. -/
import Derived.Test.YticbfdcfopilfaaDoorLevX
import Derived.Test.YticbfdcfopilfaaDoorLevAwake
set_option linter.unusedVariables false
set_option maxRecDepth 100000
namespace Go.Proofs.YticbfdcfopilfaaDoor
open Go

/-- The fuel of the greater laws. -/
def big : Nat := 30000

theorem awake_big : cpJ PR 30000 16 [] = some (.bool true) := by
  have h : isTrueO (cpJ PR 30000 16 []) = true := by kernel_rfl
  generalize cpJ PR 30000 16 [] = x at h ⊢
  unfold isTrueO at h
  split at h
  · rfl
  · cases h

theorem rows_strs : ∀ {es : List (List DVal)}, (∀ r ∈ es, ∃ s : List UInt8, r = [.str s]) → ∃ l : List (List UInt8), es = l.map fun s => [DVal.str s]
  | [], _ => ⟨[], rfl⟩
  | e :: es, h => by
    obtain ⟨s, rfl⟩ := h _ (List.mem_cons_self)
    obtain ⟨l, rfl⟩ := rows_strs (es := es) fun r hr => h r (List.mem_cons_of_mem _ hr)
    exact ⟨s :: l, rfl⟩

theorem dty_strs {k : Nat} {cs : List DVal} (h : DTy Tryd.prog (k + 2) 34 cs) : ∃ (z : Bool) (l : List (List UInt8)), cs = [strsD z l] := by
  have e1 := Tryd.underlying34
  have e2 := Tryd.underlying9
  have c9 : Tryd.prog.cellsOf 9 = 1 := by kernel_rfl
  simp only [DTy, e1, e2, c9] at h
  obtain ⟨z, es, rfl, h, -⟩ := h
  obtain ⟨l, rfl⟩ := rows_strs fun r hr => by
    obtain ⟨s, hs, -⟩ := h r hr
    exact ⟨s, hs⟩
  exact ⟨z, l, rfl⟩

theorem dtyArg_nm {d : DVal} (h : DTyArg Tryd.prog 36 d) : ∃ (z z' : Bool) (a b : List (List UInt8)), d = .agg [strsD z a, strsD z' b] := by
  have e := Tryd.underlying36
  unfold DTyArg at h
  rw [e] at h
  obtain ⟨cs, rfl, h⟩ := h
  unfold DTy at h
  rw [e] at h
  simp only [List.foldr] at h
  obtain ⟨a, b, rfl, h1, a', b', rfl, h2, rfl⟩ := h
  obtain ⟨z, l, rfl⟩ := dty_strs (k := 17) h1
  obtain ⟨z', l', rfl⟩ := dty_strs (k := 17) h2
  exact ⟨z, z', l, l', rfl⟩

theorem args_rn {Ds : List DVal} (h : DTyArgs Tryd.prog [26, 36] Ds) : ∃ (s : Int) (c : Nat) (s' : Int) (c' : Nat) (z z' : Bool) (a b : List (List UInt8)), c < 18446744073709551616 ∧ c' < 18446744073709551616 ∧ Ds = [rg s c s' c', .agg [strsD z a, strsD z' b]] := by
  obtain ⟨d, es, rfl, h1, d2, es2, rfl, h2, rfl⟩ := h
  obtain ⟨s, c, s', c', hc, hc', rfl⟩ := dtyArg_rg h1
  obtain ⟨z, z', a, b, rfl⟩ := dtyArg_nm h2
  exact ⟨s, c, s', c', z, z', a, b, hc, hc', rfl⟩

end Go.Proofs.YticbfdcfopilfaaDoor
