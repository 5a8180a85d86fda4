/- Library functions that enter by their contracts: strings.Cut, Join and Split. -/
import Derived.Test.YticbfdcfopilfaaDoorSimFun
import Derived.Test.YticbfdcfopilfaaDoorPrimSem
import Derived.Shelf.Strings.Cut
import Derived.Shelf.Strings.OnBuilder
import Derived.Shelf.Strings.Split
set_option linter.unusedVariables false
set_option linter.unusedSimpArgs false
namespace Go.Proofs.YticbfdcfopilfaaDoor
open Go Go.RowKit Go.Shelf

section
variable {P : Program} {ρ : Ren} {Gl : List (Nat × Value)}

theorem Below.drewN {w : World} {B n : Nat} : Below B w (w.drewN n) := ⟨rfl, rfl, rfl, Nat.le_refl _, fun _ _ => rfl⟩

theorem prim_cut (L : Lays.n145 P ρ) (m : Int) (hm : (ρ.g 1, Value.int .i64 m) ∈ Gl) : PureOk P Gl (ρ.f 145) cutSem := by
  intro I w ds vs r hI hG hv hs
  unfold cutSem at hs
  split at hs
  · rename_i s sep
    obtain ⟨v, u, rfl, h1, h2⟩ := hv.two
    simp only [VRel] at h1 h2
    subst h1 h2
    split at hs
    · rename_i hlt
      simp only [Option.some.injEq] at hs
      subst hs
      refine ⟨⟨_, L.f145, rfl, rfl⟩, (Any.strings_Cut L ⟨s.toArray⟩ ⟨sep.toArray⟩ m w (by simpa [ByteArray.size] using hlt) (hG _ hm).2).mono ?_⟩
      rintro e w' ⟨rfl, n, rfl⟩
      refine ⟨_, rfl, Below.drewN, ?_⟩
      simp [HRel, VRel, VRels]
    · cases hs
  · cases hs

theorem strs_rel {V : Vw} {w : World} {b : Nat} : ∀ {es : List (List DVal)} {xs : List (List UInt8)} {off : Nat}, RowsRel V w 2 b 1 off es → strsOf es = some xs →
    xs.length = es.length ∧ ∀ (j : Nat) (x : List UInt8), xs[j]? = some x → V.imm b (off + j) ∧ w.cell? ⟨b, off + j, none⟩ = some (.string ⟨x.toArray⟩)
  | [], xs, off, h, hs => by
    simp only [strsOf, Option.some.injEq] at hs
    subst hs
    exact ⟨rfl, fun j x hx => by simp at hx⟩
  | e :: es, xs, off, h, hs => by
    unfold strsOf at hs
    split at hs
    · rename_i he; cases he
    · rename_i s es' he
      simp only [List.cons.injEq] at he
      obtain ⟨rfl, rfl⟩ := he
      simp only [Option.map_eq_some_iff] at hs
      obtain ⟨ys, hy, rfl⟩ := hs
      simp only [RowsRel, RowRel] at h
      obtain ⟨-, ⟨h1, ⟨v, h2, -, h3⟩, -⟩, h4⟩ := h
      simp only [VRel] at h3
      subst h3
      obtain ⟨g1, g2⟩ := strs_rel h4 hy
      refine ⟨by simp [g1], fun j x hx => ?_⟩
      cases j with
      | zero => simp only [List.getElem?_cons_zero, Option.some.injEq] at hx; subst hx; exact ⟨h1, h2⟩
      | succ j => rw [List.getElem?_cons_succ] at hx; have := g2 j x hx; rwa [show off + 1 + j = off + (j + 1) by omega] at this
    · cases hs

theorem prim_join (L : Lays.n156 P ρ) (X : Builder.Extra P ρ) : PureOk P Gl (ρ.f 156) joinSem := by
  intro I w ds vs r hI hG hv hs
  have hcall : callable P (ρ.f 156) := ⟨_, L.f156, rfl, rfl⟩
  unfold joinSem at hs
  split at hs
  · rename_i own es sep
    obtain ⟨v, u, rfl, h1, h2⟩ := hv.two
    simp only [VRel] at h1 h2
    subst h2
    obtain ⟨-, b, off, cap, rfl, h3, -, h4⟩ := h1
    simp only [Option.bind_eq_some_iff] at hs
    obtain ⟨xs, hx, hs⟩ := hs
    split at hs
    · rename_i hlen
      simp only [Option.some.injEq] at hs
      subst hs
      obtain ⟨g1, g2⟩ := strs_rel h4 hx
      refine ⟨hcall, ?_⟩
      cases hxs : xs with
      | nil =>
        subst hxs
        have he : es.length = 0 := by simpa using g1.symm
        rw [he]
        refine (Any.strings_Join_none L X _ cap ⟨sep.toArray⟩ w).mono ?_
        rintro e w' ⟨rfl, rfl⟩
        exact ⟨_, rfl, Below.refl _ _, by simp [HRel, VRel, Lib.join_nil]⟩
      | cons x0 xs' =>
        have hb : b < w.heap.size := by
          have := (g2 0 x0 (by rw [hxs]; rfl)).1
          exact (VI_imm.1 this).1
        have := Any.strings_Join L X b off cap (xs.map fun x => (⟨x.toArray⟩ : ByteArray)) ⟨sep.toArray⟩ w (fun j x hj => by
          rw [List.getElem?_map, Option.map_eq_some_iff] at hj
          obtain ⟨y, hy, rfl⟩ := hj
          exact (g2 j y hy).2) hb (by simpa using hlen.1) (by simp; omega) (by simpa [Function.comp_def] using hlen.2)
        rw [List.length_map, g1] at this
        refine this.mono ?_
        rintro e w' ⟨rfl, hbel⟩
        refine ⟨_, rfl, hbel, ?_⟩
        simp [HRel, VRel, Function.comp_def, hxs]
    · cases hs
  · rename_i sep
    obtain ⟨v, u, rfl, h1, h2⟩ := hv.two
    simp only [VRel] at h1 h2
    subst h1 h2
    simp only [Option.some.injEq] at hs
    subst hs
    refine ⟨hcall, (Any.strings_Join_none L X none 0 ⟨sep.toArray⟩ w).mono ?_⟩
    rintro e w' ⟨rfl, rfl⟩
    exact ⟨_, rfl, Below.refl _ _, by simp [HRel, VRel]⟩
  · cases hs

theorem Below.alloc' {w : World} {o : Obj} : Below w.heap.size w (w.alloc o) := ⟨rfl, rfl, rfl, by simp, fun b hb => heap_push_old w o hb⟩

theorem strs_rows {V : Vw} {w : World} {b : Nat} : ∀ {xs : List (List UInt8)} {off : Nat}, (∀ (j : Nat) (x : List UInt8), xs[j]? = some x → V.imm b (off + j) ∧ w.cell? ⟨b, off + j, none⟩ = some (.string ⟨x.toArray⟩)) →
    RowsRel V w 2 b 1 off (xs.map fun x => [DVal.str x])
  | [], off, h => by simp only [List.map_nil, RowsRel]
  | x :: xs, off, h => by
    simp only [List.map_cons, RowsRel, RowRel, and_true]
    obtain ⟨h1, h2⟩ := h 0 x rfl
    refine ⟨rfl, ⟨h1, _, h2, rfl, by simp only [VRel]⟩, strs_rows fun j y hy => ?_⟩
    have := h (j + 1) y (by simpa using hy)
    rwa [show off + 1 + j = off + (j + 1) by omega]

theorem prim_split (L : Lays.n221 P ρ) (hi9 : (P.info? (ρ.t 9)).map (fun i => (i.zero, i.size, i.bytes)) = some (some (.string ByteArray.empty), 1, 16)) (m : Int) (hm : (ρ.g 1, Value.int .i64 m) ∈ Gl) : PureOk P Gl (ρ.f 221) genSplitSem := by
  intro I w ds vs r hI hG hv hs
  have hcall : callable P (ρ.f 221) := ⟨_, L.f221, rfl, rfl⟩
  unfold genSplitSem at hs
  split at hs
  · rename_i s sep
    simp only [VRels] at hv
    obtain ⟨v1, _, rfl, h1, v2, _, rfl, h2, v3, _, rfl, h3, v4, _, rfl, h4, rfl⟩ := hv
    simp only [VRel] at h1 h2 h3 h4
    subst h1 h2 h3 h4
    split at hs
    · rename_i hlen
      simp only [Option.some.injEq] at hs
      subst hs
      refine ⟨hcall, ?_⟩
      have hcnt : Lib.countB ⟨s.toArray⟩ ⟨sep.toArray⟩ = Lib.count s sep := rfl
      refine (Any.strings_genSplit L hi9 ⟨s.toArray⟩ ⟨sep.toArray⟩ 0 (-1) (min (Lib.count s sep + 1) (s.length + 1)) m w (by simpa [ByteArray.size] using hlen.1) (hG _ hm).2 (by simpa [ByteArray.size] using hlen.2) (Nat.zero_le _) (by omega) (by omega)
        (by rw [hcnt]; simp [ByteArray.size]; omega)).mono ?_
      rintro e w' ⟨rfl, rfl⟩
      have hdata := Lib.splitB_data ⟨sep.toArray⟩ 0 (min (Lib.count s sep + 1) (s.length + 1) - 1) ⟨s.toArray⟩
      generalize hB : Lib.splitB ⟨sep.toArray⟩ 0 (min (Lib.count s sep + 1) (s.length + 1) - 1) ⟨s.toArray⟩ = B at hdata
      have hN : B.length ≤ min (Lib.count s sep + 1) (s.length + 1) := by
        have := Lib.splitB_length_le ⟨sep.toArray⟩ 0 (min (Lib.count s sep + 1) (s.length + 1) - 1) ⟨s.toArray⟩
        rw [hB] at this
        omega
      have hS : Lib.splitN s sep (Lib.count s sep + 1) = B.map (·.data.toList) := by unfold Lib.splitN; rw [hdata]
      rw [hS]
      refine ⟨_, rfl, Below.alloc', ?_⟩
      unfold HRel
      simp only [VRel, List.length_map]
      refine ⟨.inr ⟨trivial, by omega⟩, _, _, _, rfl, hN, ⟨by omega, fun e => by omega, fun e => by omega⟩, strs_rows fun j x hx => ?_⟩
      rw [List.getElem?_map, Option.map_eq_some_iff] at hx
      obtain ⟨y, hy, rfl⟩ := hx
      refine ⟨VI_imm.2 ⟨by simp, .inr ⟨Nat.le_refl _, by simp, fun e => by simp at e⟩⟩, ?_⟩
      rw [cell_of_row _ _ _ _ _ (0, 0) (heap_alloc_new w _)]
      have hj : j < B.length := (List.getElem?_eq_some_iff.1 hy).1
      simp only [Nat.zero_add, Lib.cellsOf, List.getElem?_toArray]
      rw [List.getElem?_append_left (by simpa using hj), List.getElem?_map, hy]
      rfl
    · cases hs
  · cases hs

end

end Go.Proofs.YticbfdcfopilfaaDoor
