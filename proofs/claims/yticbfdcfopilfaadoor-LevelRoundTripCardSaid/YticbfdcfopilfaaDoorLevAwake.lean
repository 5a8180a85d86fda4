/- The law's examples of the library's chapter hold: computed by the kernel. And what arguments read as. -/
import Derived.Test.YticbfdcfopilfaaDoorLevB
import Derived.Test.YticbfdcfopilfaaDoorGlue
import Derived.Test.YticbfdcfopilfaaDoorChecked
import Derived.KernelRfl
set_option linter.unusedVariables false
set_option maxRecDepth 100000
namespace Go.Proofs.YticbfdcfopilfaaDoor
open Go

def isTrueO : Option DVal → Bool
  | some (.bool true) => true
  | _ => false

theorem awake_true : cpJ PR 120 16 [] = some (.bool true) := by
  have h : isTrueO (cpJ PR 120 16 []) = true := by kernel_rfl
  generalize cpJ PR 120 16 [] = x at h ⊢
  unfold isTrueO at h
  split at h
  · rfl
  · cases h

theorem dty_i64 {d : DVal} (h : DTyArg Tryd.prog 3 d) : ∃ n : Int, d = .int .i64 n ∧ (Lit.int .i64 n).wf = true := by
  have e : Tryd.prog.underlying 3 = some (.int .i64) := Tryd.underlying3
  simp only [DTyArg, DTy, e, List.cons.injEq, and_true] at h
  exact h

theorem dty_lv {k : Nat} {cs : List DVal} (h : DTy Tryd.prog (k + 2) 24 cs) : ∃ (s : Int) (c : Nat), c < 18446744073709551616 ∧ cs = [.int .i64 s, .int .u64 c] := by
  simp only [DTy, Tryd.underlying24, Tryd.underlying3, List.foldr] at h
  obtain ⟨a, b, rfl, ⟨s, rfl, -⟩, a', b', rfl, ⟨c, rfl, hc⟩, rfl⟩ := h
  have := bounds_u64 hc
  exact ⟨s, c.toNat, by omega, by simp; omega⟩

theorem dtyArg_lv {d : DVal} (h : DTyArg Tryd.prog 24 d) : ∃ (s : Int) (c : Nat), c < 18446744073709551616 ∧ d = lv s c := by
  have e := Tryd.underlying24
  unfold DTyArg at h
  rw [e] at h
  obtain ⟨cs, rfl, h⟩ := h
  obtain ⟨s, c, hc, rfl⟩ := dty_lv (k := 18) h
  exact ⟨s, c, hc, rfl⟩

theorem dtyArg_rg {d : DVal} (h : DTyArg Tryd.prog 26 d) : ∃ (s : Int) (c : Nat) (s' : Int) (c' : Nat), c < 18446744073709551616 ∧ c' < 18446744073709551616 ∧ d = rg s c s' c' := by
  have e := Tryd.underlying26
  unfold DTyArg at h
  rw [e] at h
  obtain ⟨cs, rfl, h⟩ := h
  unfold DTy at h
  rw [e] at h
  simp only [List.foldr] at h
  obtain ⟨a, b, rfl, h1, a', b', rfl, h2, rfl⟩ := h
  obtain ⟨s, c, hc, rfl⟩ := dty_lv (k := 17) h1
  obtain ⟨s', c', hc', rfl⟩ := dty_lv (k := 17) h2
  exact ⟨s, c, s', c', hc, hc', rfl⟩

theorem args_rii {Ds : List DVal} (h : DTyArgs Tryd.prog Tryd.f3.params.toList Ds) : ∃ (s : Int) (c : Nat) (s' : Int) (c' : Nat) (sens cats : Int), c < 18446744073709551616 ∧ c' < 18446744073709551616 ∧ Ds = [rg s c s' c', .int .i64 sens, .int .i64 cats] := by
  rw [Tryd.params3] at h
  obtain ⟨d, es, rfl, h1, d2, es2, rfl, h2, d3, es3, rfl, h3, rfl⟩ := h
  obtain ⟨s, c, s', c', hc, hc', rfl⟩ := dtyArg_rg h1
  obtain ⟨a, rfl, -⟩ := dty_i64 h2
  obtain ⟨b, rfl, -⟩ := dty_i64 h3
  exact ⟨s, c, s', c', a, b, hc, hc', rfl⟩

theorem args_ll {Ds : List DVal} (h : DTyArgs Tryd.prog Tryd.f4.params.toList Ds) : ∃ (s : Int) (c : Nat) (s' : Int) (c' : Nat), c < 18446744073709551616 ∧ c' < 18446744073709551616 ∧ Ds = [lv s c, lv s' c'] := by
  rw [Tryd.params4] at h
  obtain ⟨d, es, rfl, h1, d2, es2, rfl, h2, rfl⟩ := h
  obtain ⟨s, c, hc, rfl⟩ := dtyArg_lv h1
  obtain ⟨s', c', hc', rfl⟩ := dtyArg_lv h2
  exact ⟨s, c, s', c', hc, hc', rfl⟩

theorem args_lll {Ds : List DVal} (h : DTyArgs Tryd.prog Tryd.f5.params.toList Ds) : ∃ (s : Int) (c : Nat) (t : Int) (d : Nat) (r : Int) (b : Nat), c < 18446744073709551616 ∧ d < 18446744073709551616 ∧ b < 18446744073709551616 ∧ Ds = [lv s c, lv t d, lv r b] := by
  rw [Tryd.params5] at h
  obtain ⟨d, es, rfl, h1, d2, es2, rfl, h2, d3, es3, rfl, h3, rfl⟩ := h
  obtain ⟨s, c, hc, rfl⟩ := dtyArg_lv h1
  obtain ⟨s', c', hc', rfl⟩ := dtyArg_lv h2
  obtain ⟨s2, c2, hc2, rfl⟩ := dtyArg_lv h3
  exact ⟨s, c, s', c', s2, c2, hc, hc', hc2, rfl⟩

theorem args_rrr {Ds : List DVal} (h : DTyArgs Tryd.prog Tryd.f9.params.toList Ds) : ∃ (s : Int) (c : Nat) (s' : Int) (c' : Nat) (t : Int) (d : Nat) (t' : Int) (d' : Nat) (r : Int) (b : Nat) (r' : Int) (b' : Nat), (c < 18446744073709551616 ∧ c' < 18446744073709551616) ∧ (d < 18446744073709551616 ∧ d' < 18446744073709551616) ∧ (b < 18446744073709551616 ∧ b' < 18446744073709551616) ∧
    Ds = [rg s c s' c', rg t d t' d', rg r b r' b'] := by
  rw [Tryd.params9] at h
  obtain ⟨d, es, rfl, h1, d2, es2, rfl, h2, d3, es3, rfl, h3, rfl⟩ := h
  obtain ⟨s, c, s', c', hc, hc', rfl⟩ := dtyArg_rg h1
  obtain ⟨t, d, t', d', hd, hd', rfl⟩ := dtyArg_rg h2
  obtain ⟨r, b, r', b', hb, hb', rfl⟩ := dtyArg_rg h3
  exact ⟨s, c, s', c', t, d, t', d', r, b, r', b', ⟨hc, hc'⟩, ⟨hd, hd'⟩, ⟨hb, hb'⟩, rfl⟩

end Go.Proofs.YticbfdcfopilfaaDoor
