/- Library functions that enter by their contracts: strings.Split's worker, Contains, Count, ContainsRune and ContainsAny. -/
import Derived.Test.YtdnoonnanhnkaaaDoorSimFun
import Derived.Test.YtdnoonnanhnkaaaDoorPrimSem
import Derived.Shelf.Strings.Split
import Derived.Shelf.Strings.Search3
import Derived.Shelf.Strings.Count
import Derived.Shelf.Strings.Runes
import Derived.Shelf.Strings.IndexAnyAll
set_option linter.unusedVariables false
set_option linter.unusedSimpArgs false
namespace Go.Proofs.YtdnoonnanhnkaaaDoor
open Go Go.RowKit Go.Shelf

section
variable {P : Program} {ρ : Ren} {Gl : List (Nat × Value)}

theorem Below.alloc' {w : World} {o : Obj} : Below w.heap.size w (w.alloc o) := ⟨rfl, rfl, rfl, by simp, fun b hb => heap_push_old w o hb⟩

theorem strs_rows {V : Vw} {w : World} {b : Nat} : ∀ {xs : List (List UInt8)} {off : Nat}, (∀ (j : Nat) (x : List UInt8), xs[j]? = some x → V.imm b (off + j) ∧ w.cell? ⟨b, off + j, none⟩ = some (.string ⟨x.toArray⟩)) →
    RowsRel V w 2 b 1 off (xs.map fun x => [DVal.str x])
  | [], off, h => by simp only [List.map_nil, RowsRel]
  | x :: xs, off, h => by
    simp only [List.map_cons, RowsRel, RowRel, and_true]
    obtain ⟨h1, h2⟩ := h 0 x rfl
    refine ⟨rfl, ⟨h1, _, h2, rfl, by simp only [VRel]⟩, strs_rows fun j y hy => ?_⟩
    have := h (j + 1) y (by simpa using hy)
    rwa [show off + 1 + j = off + (j + 1) by omega]

theorem prim_split (L : Lays.n221 P ρ) (hi9 : (P.info? (ρ.t 9)).map (fun i => (i.zero, i.size, i.bytes)) = some (some (.string ByteArray.empty), 1, 16)) (m : Int) (hm : (ρ.g 1, Value.int .i64 m) ∈ Gl) : PureOk P Gl (ρ.f 221) genSplitSem := by
  intro I w ds vs r hI hG hv hs
  have hcall : callable P (ρ.f 221) := ⟨_, L.f221, rfl, rfl⟩
  unfold genSplitSem at hs
  split at hs
  · rename_i s sep
    simp only [VRels] at hv
    obtain ⟨v1, _, rfl, h1, v2, _, rfl, h2, v3, _, rfl, h3, v4, _, rfl, h4, rfl⟩ := hv
    simp only [VRel] at h1 h2 h3 h4
    subst h1 h2 h3 h4
    split at hs
    · rename_i hlen
      simp only [Option.some.injEq] at hs
      subst hs
      refine ⟨hcall, ?_⟩
      have hcnt : Lib.countB ⟨s.toArray⟩ ⟨sep.toArray⟩ = Lib.count s sep := rfl
      refine (Any.strings_genSplit L hi9 ⟨s.toArray⟩ ⟨sep.toArray⟩ 0 (-1) (min (Lib.count s sep + 1) (s.length + 1)) m w (by simpa [ByteArray.size] using hlen.1) (hG _ hm).2 (by simpa [ByteArray.size] using hlen.2) (Nat.zero_le _) (by omega) (by omega)
        (by rw [hcnt]; simp [ByteArray.size]; omega)).mono ?_
      rintro e w' ⟨rfl, rfl⟩
      have hdata := Lib.splitB_data ⟨sep.toArray⟩ 0 (min (Lib.count s sep + 1) (s.length + 1) - 1) ⟨s.toArray⟩
      generalize hB : Lib.splitB ⟨sep.toArray⟩ 0 (min (Lib.count s sep + 1) (s.length + 1) - 1) ⟨s.toArray⟩ = B at hdata
      have hN : B.length ≤ min (Lib.count s sep + 1) (s.length + 1) := by
        have := Lib.splitB_length_le ⟨sep.toArray⟩ 0 (min (Lib.count s sep + 1) (s.length + 1) - 1) ⟨s.toArray⟩
        rw [hB] at this
        omega
      have hS : Lib.splitN s sep (Lib.count s sep + 1) = B.map (·.data.toList) := by unfold Lib.splitN; rw [hdata]
      rw [hS]
      refine ⟨_, rfl, Below.alloc', ?_⟩
      unfold HRel
      simp only [VRel, List.length_map]
      refine ⟨.inr ⟨trivial, by omega⟩, _, _, _, rfl, hN, ⟨by omega, fun e => by omega, fun e => by omega⟩, strs_rows fun j x hx => ?_⟩
      rw [List.getElem?_map, Option.map_eq_some_iff] at hx
      obtain ⟨y, hy, rfl⟩ := hx
      refine ⟨VI_imm.2 ⟨by simp, .inr ⟨Nat.le_refl _, by simp, fun e => by simp at e⟩⟩, ?_⟩
      rw [cell_of_row _ _ _ _ _ (0, 0) (heap_alloc_new w _)]
      have hj : j < B.length := (List.getElem?_eq_some_iff.1 hy).1
      simp only [Nat.zero_add, Lib.cellsOf, List.getElem?_toArray]
      rw [List.getElem?_append_left (by simpa using hj), List.getElem?_map, hy]
      rfl
    · cases hs
  · cases hs

theorem prim_contains (L : Lays.n144 P ρ) (m : Int) (hm : (ρ.g 1, Value.int .i64 m) ∈ Gl) : PureOk P Gl (ρ.f 144) containsSem := by
  intro I w ds vs r hI hG hv hs
  unfold containsSem at hs
  split at hs
  · rename_i s sep
    obtain ⟨v, u, rfl, h1, h2⟩ := hv.two
    simp only [VRel] at h1 h2
    subst h1 h2
    split at hs
    · rename_i hlt
      simp only [Option.some.injEq] at hs
      subst hs
      refine ⟨⟨_, L.f144, rfl, rfl⟩, (Any.strings_Contains L ⟨s.toArray⟩ ⟨sep.toArray⟩ m w (by simpa [ByteArray.size] using hlt) (hG _ hm).2).mono ?_⟩
      rintro e w' ⟨rfl, rfl⟩
      exact ⟨_, rfl, Below.refl _ _, by simp [HRel, VRel]⟩
    · cases hs
  · cases hs

theorem prim_count (L : Lays.n138 P ρ) : PureOk P Gl (ρ.f 138) countSem := by
  intro I w ds vs r hI hG hv hs
  unfold countSem at hs
  split at hs
  · rename_i s c
    obtain ⟨v, u, rfl, h1, h2⟩ := hv.two
    simp only [VRel] at h1 h2
    subst h1 h2
    simp only [Option.some.injEq] at hs
    subst hs
    refine ⟨⟨_, L.f138, rfl, rfl⟩, (Any.strings_Count_one L ⟨s.toArray⟩ c w).mono ?_⟩
    rintro e w' ⟨rfl, rfl⟩
    exact ⟨_, rfl, Below.refl _ _, by simp [HRel, VRel, goI, Lib.countByte]⟩
  · cases hs

theorem prim_containsRune (L : Lays.n151 P ρ) : PureOk P Gl (ρ.f 151) containsRuneSem := by
  intro I w ds vs r hI hG hv hs
  unfold containsRuneSem at hs
  split at hs
  · rename_i s c
    obtain ⟨v, u, rfl, h1, h2⟩ := hv.two
    simp only [VRel] at h1 h2
    subst h1 h2
    split at hs
    · rename_i hc
      simp only [Option.some.injEq] at hs
      subst hs
      refine ⟨⟨_, L.f151, rfl, rfl⟩, (Any.strings_ContainsRune_ascii L ⟨s.toArray⟩ c w hc.1 hc.2).mono ?_⟩
      rintro e w' ⟨rfl, rfl⟩
      have := Lib.contains_iff_indexByte s c.toNat.toUInt8
      exact ⟨_, rfl, Below.refl _ _, by simp only [HRel, VRel, this]⟩
    · cases hs
  · cases hs

theorem containsAny_eq (cs : List UInt8) : ∀ s : List UInt8, Lib.containsAny s cs = s.any fun b => cs.contains b
  | [] => rfl
  | b :: s => by
    have ih := containsAny_eq cs s
    have hge := Lib.indexAny_ge cs s
    unfold Lib.containsAny at ih ⊢
    rw [Lib.indexAny, List.any_cons]
    by_cases h : cs.contains b
    · rw [h]; simp
    · have h' : cs.contains b = false := by simpa using h
      rw [h', ← ih]
      simp only [Bool.false_eq_true, if_false, Bool.false_or, beq_iff_eq]
      split
      · rename_i e; rw [e]
      · congr 1
        apply propext
        constructor <;> intro <;> omega

theorem prim_containsAny (L : Lays.n150 P ρ) (h116 : (P.info? (ρ.t 116)).map (fun i => (i.zero, i.size)) = some (some (.agg (Array.replicate 256 (.bool false))), 256)) : PureOk P Gl (ρ.f 150) containsAnySem := by
  intro I w ds vs r hI hG hv hs
  unfold containsAnySem at hs
  split at hs
  · rename_i s cs
    obtain ⟨v, u, rfl, h1, h2⟩ := hv.two
    simp only [VRel] at h1 h2
    subst h1 h2
    split at hs
    · rename_i hc
      obtain ⟨c1, c2, c3, c4⟩ := hc
      simp only [Option.some.injEq] at hs
      subst hs
      have asc : ∀ (l : List UInt8), (l.all fun b => Nat.blt b.toNat 128) = true → ∀ (j : Nat) b, l[j]? = some b → b.toNat < 128 := fun l hl j b hb => by
        simpa [Nat.blt_eq] using List.all_eq_true.1 hl b (List.mem_of_getElem? hb)
      refine ⟨⟨_, L.f150, rfl, rfl⟩, (Any.strings_ContainsAny_laid L h116 ⟨s.toArray⟩ ⟨cs.toArray⟩ w (by simpa [ByteArray.size] using c1) (by simpa [ByteArray.size] using c2) (by simpa using asc s c3) (by simpa using asc cs c4)).mono ?_⟩
      rintro e w' ⟨rfl, hb⟩
      exact ⟨_, rfl, hb, by simp [HRel, VRel, containsAny_eq]⟩
    · cases hs
  · cases hs

end

end Go.Proofs.YtdnoonnanhnkaaaDoor
