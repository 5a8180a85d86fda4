/- Texts of this proof, part 8: see the card for what is proved. -/
import Derived.Test.YtklepphkbbjbjaaDoorPc02
import Derived.Test.YtklepphkbbjbjaaDoorPc03
import Derived.Test.YtklepphkbbjbjaaDoorPc05
import Derived.Shelf.Strings.Split
import Derived.Shelf.Strings.Search1
import Derived.Shelf.Strings.Search3
import Derived.Shelf.Strings.Runes
import Derived.Shelf.Sort.Plain
import Derived.Shelf.Slices.In.SortNone
import Derived.Test.YtklepphkbbjbjaaDoorChecked
import Derived.KernelRfl
import Derived.Test.YtklepphkbbjbjaaDoorPc07
import Derived.Test.YtklepphkbbjbjaaDoorPc04
import Derived.Test.YtklepphkbbjbjaaDoorTie
import Derived.Test.YtklepphkbbjbjaaDoorCards
import Derived.ProofKit
import Derived.OpenShut
import Derived.Deep.DeepHandedRow
namespace Go.Proofs.YtklepphkbbjbjaaDoor
set_option linter.unusedVariables false
set_option linter.unusedSimpArgs false
open Go Go.RowKit Go.Shelf Go.Sort
section
variable {P : Program} {ρ : Ren} {Gl : List (Nat × Nat × Option Value)}
theorem Below.alloc' {w : World} {o : Obj} : Below w.heap.size w (w.alloc o) := ⟨rfl, rfl, rfl, by simp, fun b hb => heap_push_old w o hb⟩
theorem strs_rows {V : Vw} {w : World} {b : Nat} : ∀ {xs : List (List UInt8)} {off : Nat}, (∀ (j : Nat) (x : List UInt8), xs[j]? = some x → V.imm b (off + j) ∧ w.cell? ⟨b, off + j, none⟩ = some (.string ⟨x.toArray⟩)) →
    RowsRel V w 2 b 1 off (xs.map fun x => [DVal.str x])
  | [], off, h => by simp only [List.map_nil, RowsRel]
  | x :: xs, off, h => by
    simp only [List.map_cons, RowsRel, RowRel, and_true]
    obtain ⟨h1, h2⟩ := h 0 x rfl
    refine ⟨rfl, ⟨h1, _, h2, rfl, by simp only [VRel]⟩, strs_rows fun j y hy => ?_⟩
    have := h (j + 1) y (by simpa using hy)
    rwa [show off + 1 + j = off + (j + 1) by omega]
theorem prim_split (L : Lays.n221 P ρ) (hi9 : (P.info? (ρ.t 9)).map (fun i => (i.zero, i.size, i.bytes)) = some (some (.string ByteArray.empty), 1, 16)) (m : Int) (hm : (ρ.g 1, 0, some (Value.int .i64 m)) ∈ Gl) : PureOk P Gl (ρ.f 221) genSplitSem := by
  intro I w ds vs r hI hG hv hs
  have hcall : callable P (ρ.f 221) := ⟨_, L.f221, rfl, rfl⟩
  unfold genSplitSem at hs
  split at hs
  · rename_i s sep
    simp only [VRels] at hv
    obtain ⟨v1, _, rfl, h1, v2, _, rfl, h2, v3, _, rfl, h3, v4, _, rfl, h4, rfl⟩ := hv
    simp only [VRel] at h1 h2 h3 h4
    subst h1 h2 h3 h4
    split at hs
    · rename_i hlen
      simp only [Option.some.injEq] at hs
      subst hs
      refine ⟨hcall, ?_⟩
      have hcnt : Lib.countB ⟨s.toArray⟩ ⟨sep.toArray⟩ = Lib.count s sep := rfl
      refine (Any.strings_genSplit L hi9 ⟨s.toArray⟩ ⟨sep.toArray⟩ 0 (-1) (min (Lib.count s sep + 1) (s.length + 1)) m w (by simpa [ByteArray.size] using hlen.1) (hG _ hm).2 (by simpa [ByteArray.size] using hlen.2) (Nat.zero_le _) (by omega) (by omega)
        (by rw [hcnt]; simp [ByteArray.size]; omega)).mono ?_
      rintro e w' ⟨rfl, rfl⟩
      have hdata := Lib.splitB_data ⟨sep.toArray⟩ 0 (min (Lib.count s sep + 1) (s.length + 1) - 1) ⟨s.toArray⟩
      generalize hB : Lib.splitB ⟨sep.toArray⟩ 0 (min (Lib.count s sep + 1) (s.length + 1) - 1) ⟨s.toArray⟩ = B at hdata
      have hN : B.length ≤ min (Lib.count s sep + 1) (s.length + 1) := by
        have := Lib.splitB_length_le ⟨sep.toArray⟩ 0 (min (Lib.count s sep + 1) (s.length + 1) - 1) ⟨s.toArray⟩
        rw [hB] at this
        omega
      have hS : Lib.splitN s sep (Lib.count s sep + 1) = B.map (·.data.toList) := by unfold Lib.splitN; rw [hdata]
      rw [hS]
      refine ⟨_, rfl, Below.alloc', ?_⟩
      unfold HRel
      simp only [VRel, List.length_map]
      refine ⟨.inr ⟨trivial, by omega⟩, _, _, _, rfl, hN, ⟨by omega, fun e => by omega, fun e => by omega⟩, strs_rows fun j x hx => ?_⟩
      rw [List.getElem?_map, Option.map_eq_some_iff] at hx
      obtain ⟨y, hy, rfl⟩ := hx
      refine ⟨VI_imm.2 ⟨by simp, .inr ⟨Nat.le_refl _, by simp, fun e => by simp at e⟩⟩, ?_⟩
      rw [cell_of_row _ _ _ _ _ (0, 0) (heap_alloc_new w _)]
      have hj : j < B.length := (List.getElem?_eq_some_iff.1 hy).1
      simp only [Nat.zero_add, Lib.cellsOf, List.getElem?_toArray]
      rw [List.getElem?_append_left (by simpa using hj), List.getElem?_map, hy]
      rfl
    · cases hs
  · cases hs
theorem prim_containsRune (L : Lays.n151 P ρ) : PureOk P Gl (ρ.f 151) containsRuneSem := by
  intro I w ds vs r hI hG hv hs
  unfold containsRuneSem at hs
  split at hs
  · rename_i s c
    obtain ⟨v, u, rfl, h1, h2⟩ := hv.two
    simp only [VRel] at h1 h2
    subst h1 h2
    split at hs
    · rename_i hc
      simp only [Option.some.injEq] at hs
      subst hs
      refine ⟨⟨_, L.f151, rfl, rfl⟩, (Any.strings_ContainsRune_ascii L ⟨s.toArray⟩ c w hc.1 hc.2).mono ?_⟩
      rintro e w' ⟨rfl, rfl⟩
      have := Lib.contains_iff_indexByte s c.toNat.toUInt8
      exact ⟨_, rfl, Below.refl _ _, by simp only [HRel, VRel, this]⟩
    · cases hs
  · cases hs
theorem prim_indexByte (L : Lays.n217 P ρ) : PureOk P Gl (ρ.f 217) indexByteSem := by
  intro I w ds vs r hI hG hv hs
  unfold indexByteSem at hs
  split at hs
  · rename_i s c
    obtain ⟨v, u, rfl, h1, h2⟩ := hv.two
    simp only [VRel] at h1 h2
    subst h1 h2
    simp only [Option.some.injEq] at hs
    subst hs
    refine ⟨⟨_, L.f217, rfl, rfl⟩, (Any.stringslite_IndexByte L ⟨s.toArray⟩ c w).mono ?_⟩
    rintro e w' ⟨rfl, rfl⟩
    exact ⟨_, rfl, Below.refl _ _, by simp only [HRel, VRel]⟩
  · cases hs
theorem strCells_map : ∀ {cs : List DVal} {zs : List (List UInt8)}, strCells cs = some zs → cs = zs.map .str
  | [], zs, h => by simp only [strCells, Option.some.injEq] at h; subst h; rfl
  | c :: cs, zs, h => by
    unfold strCells at h
    split at h
    · rename_i e; cases e
    · rename_i s cs' e
      simp only [List.cons.injEq] at e
      obtain ⟨rfl, rfl⟩ := e
      simp only [Option.map_eq_some_iff] at h
      obtain ⟨ys, h1, rfl⟩ := h
      rw [strCells_map h1]
      rfl
    · cases h
theorem VRels.strs {V : Vw} {w : World} {m : Nat} : ∀ {zs : List (List UInt8)} {us : List Value}, VRels V w m (zs.map .str) us → us = zs.map encStr
  | [], us, h => by simp only [List.map_nil, VRels] at h; exact h
  | z :: zs, us, h => by
    simp only [List.map_cons, VRels, VRel] at h
    obtain ⟨u, vs, rfl, rfl, h2⟩ := h
    rw [VRels.strs h2]
    rfl
theorem VRels.ofStrs {V : Vw} {w : World} {m : Nat} : ∀ (zs : List (List UInt8)), VRels V w m (zs.map .str) (zs.map encStr)
  | [] => by simp only [List.map_nil, VRels]
  | z :: zs => by
    simp only [List.map_cons, VRels, VRel]
    exact ⟨_, _, rfl, rfl, VRels.ofStrs zs⟩
theorem putCells_list {zs ys : List (List UInt8)} {rest : List Value} {c : Array Value} (hc : c.toList = zs.map encStr ++ rest) (hl : ys.length = zs.length) : (putCells encStr 0 ys.toArray c).toList = ys.map encStr ++ rest := by
  unfold putCells
  refine List.ext_getElem? fun i => ?_
  rw [Array.toList_mapIdx, List.getElem?_mapIdx, hc]
  simp only [Nat.zero_le, true_and, Nat.zero_add, List.size_toArray, Nat.sub_zero]
  by_cases h : i < ys.length
  · rw [List.getElem?_append_left (by simp; omega), List.getElem?_append_left (by simp; omega)]
    simp only [List.getElem?_map]
    rw [List.getElem?_eq_getElem (show i < zs.length by omega), List.getElem?_eq_getElem h]
    simp [h]
  · rw [List.getElem?_append_right (by simp; omega), List.getElem?_append_right (by simp; omega)]
    simp only [List.length_map, hl, h, if_false]
    have h2 : ¬ i < zs.length := by omega
    simp only [h2, if_false]
    cases rest[i - zs.length]? <;> rfl
theorem ora_sort : OraSem sortSem := by
  intro ds σ o
  unfold sortSem
  split
  · rfl
  · cases σ
    simp only [Sto.setO]
    repeat' split
    all_goals try simp only [*, and_self, and_true, true_and, not_true_eq_false, not_false_eq_true, if_true, if_false, Bool.false_eq_true, Option.map_none]
    all_goals repeat' split
    all_goals first
      | rfl
      | (simp_all [setO2, Sto.setO]; done)
  · rfl
theorem sprim_sort (L : Lays.n190 P ρ) : ImpOk P Gl (ρ.f 190) sortSem := by
  intro V σ σ' w ds vs r hi hG hv hs
  have hcall : callable P (ρ.f 190) := ⟨_, L.f190, rfl, rfl⟩
  unfold sortSem at hs
  split at hs
  · obtain ⟨v, rfl, h1⟩ := hv.one
    simp only [VRel] at h1
    subst h1
    simp only [Option.some.injEq, Prod.mk.injEq] at hs
    obtain ⟨rfl, rfl⟩ := hs
    refine ⟨hcall, (Any.slices_Sort_string_none L none 0 w).mono ?_⟩
    rintro e w' ⟨rfl, rfl⟩
    exact ⟨_, V, rfl, .refl _ _, hi, by simp only [VRel]; exact ⟨_, rfl, by simp only [VRels]⟩⟩
  · rename_i id len cap
    obtain ⟨v, rfl, h1⟩ := hv.one
    split at hs
    · rename_i hlt
      split at hs
      · rename_i cs hcs
        split at hs
        · rename_i zs hzs
          split at hs
          · rename_i hlen
            obtain ⟨hl1, hl2⟩ := hlen
            simp only [Option.some.injEq, Prod.mk.injEq] at hs
            obtain ⟨rfl, rfl⟩ := hs
            simp only [VRel] at h1
            obtain ⟨-, h0, vcap, rfl, hcap, -, cur0, el0, hheap0, hroom⟩ := h1
            have hcs' := strCells_map hzs
            subst hcs'
            have hobj := (hi.obj id h0).2
            rw [hcs] at hobj
            obtain ⟨cur, el, us, rest, hheap, hcl, hrel⟩ := hobj
            have hus := hrel.strs
            subst hus
            subst hl1
            have hblk := (Array.getElem?_eq_some_iff.1 hheap).1
            have hH : Holds encStr w (V.phi id) 0 zs.toArray := by
              intro j hj
              have hj' : j < zs.length := by simpa using hj
              refine ⟨?_, ?_⟩
              · rw [cell_of_row w _ _ cur el (0, 0) hheap, ← Array.getElem?_toList, hcl, List.getElem?_append_left (by simpa using by omega)]
                simp [hj']
              · simp [World.frozen?, hheap]
            refine ⟨hcall, (Any.slices_Sort_string L (V.phi id) 0 vcap zs w hH hblk hl2).mono ?_⟩
            rintro e w' ⟨rfl, n, os, rfl⟩
            obtain ⟨ha1, hi1⟩ := hi.drew (w' := Sort.ahead w n) rfl rfl rfl rfl
            have hlen : (zs.mergeSort fun x y => decide (x ≤ y)).length = zs.length := List.length_mergeSort _
            generalize (zs.mergeSort fun x y => decide (x ≤ y)) = ys at *
            have hh1 : (Sort.ahead w n).heap[V.phi id]? = some (.cells cur el) := hheap
            have hup : Upd1 (Sort.ahead w n) (putRow encStr (Sort.ahead w n) (V.phi id) 0 ys.toArray) (V.phi id) := ⟨fun k hk => by simp [putRow, mapBlock, Array.getElem?_modify, Ne.symm hk], by simp [putRow, mapBlock], rfl, rfl, rfl⟩
            have hh2 : (putRow encStr (Sort.ahead w n) (V.phi id) 0 ys.toArray).heap[V.phi id]? = some (.cells (putCells encStr 0 ys.toArray cur) el) := by
              simp only [putRow, mapBlock, Array.getElem?_modify, if_true]
              rw [hh1]
              rfl
            have hsame : SameSz (Sort.ahead w n) (putRow encStr (Sort.ahead w n) (V.phi id) 0 ys.toArray) (V.phi id) := fun c el2 hc2 => by
              rw [hh1] at hc2
              simp only [Option.some.injEq, Obj.cells.injEq, and_true] at hc2
              obtain ⟨rfl, rfl⟩ := hc2
              exact ⟨_, hh2, by simp [putCells]⟩
            obtain ⟨ha2, hi2⟩ := hi1.setObj h0 (by rw [hcs]; simp) hup hsame (d := .agg (ys.map .str)) ⟨_, el, ys.map encStr, rest, hh2, putCells_list hcl hlen, VRels.ofStrs _⟩
            have hb : Below (putRow encStr (Sort.ahead w n) (V.phi id) 0 ys.toArray).heap.size (putRow encStr (Sort.ahead w n) (V.phi id) 0 ys.toArray) (grow (putRow encStr (Sort.ahead w n) (V.phi id) 0 ys.toArray) os) :=
              ⟨rfl, rfl, rfl, by simp [grow], fun b hb => by simp only [grow]; rw [Array.getElem?_append_left hb]⟩
            obtain ⟨V', ha3, hi3, -, -⟩ := hi2.afterPure hb
            exact ⟨_, V', rfl, (ha1.trans ha2).trans ha3, hi3, by simp only [VRel]; exact ⟨_, rfl, by simp only [VRels]⟩⟩
          · cases hs
        · cases hs
      · cases hs
    · cases hs
  · cases hs
end
end Go.Proofs.YtklepphkbbjbjaaDoor
namespace Go.Proofs.YtklepphkbbjbjaaDoor
set_option linter.unusedVariables false
set_option maxRecDepth 100000
open Go Go.Shelf
def ren190 : Go.Shelf.Ren := ⟨fun | 190 => 40 | 125 => 53 | 258 => 52 | 128 => 73 | 129 => 74 | 302 => 64 | 303 => 65 | 304 => 66 | 305 => 67 | 306 => 68 | 307 => 69 | 308 => 70 | 309 => 71 | 310 => 72 | 333 => 82 | 329 => 83 | 330 => 84 | 334 => 85 | 335 => 86 | 336 => 87 | 344 => 94 | n => n, fun | 31 => 80 | 9 => 9 | 3 => 3 | 46 => 97 | 0 => 0 | 51 => 114 | 53 => 116 | 4 => 4 | 183 => 107 | 182 => 106 | 131 => 39 | 5 => 5 | 218 => 121 | 222 => 125 | 228 => 130 | 229 => 131 | n => n, fun n => n⟩
theorem lays190 : Lays.n190 Tryd.prog ren190 where
  mixed := by kernel_rfl
  f125 := Tryd.func53.trans (congrArg some (by kernel_rfl))
  f128 := Tryd.func73.trans (congrArg some (by kernel_rfl))
  f129 := Tryd.func74.trans (congrArg some (by kernel_rfl))
  f190 := Tryd.func40.trans (congrArg some (by kernel_rfl))
  f258 := Tryd.func52.trans (congrArg some (by kernel_rfl))
  f302 := Tryd.func64.trans (congrArg some (by kernel_rfl))
  f303 := Tryd.func65.trans (congrArg some (by kernel_rfl))
  f304 := Tryd.func66.trans (congrArg some (by kernel_rfl))
  f305 := Tryd.func67.trans (congrArg some (by kernel_rfl))
  f306 := Tryd.func68.trans (congrArg some (by kernel_rfl))
  f307 := Tryd.func69.trans (congrArg some (by kernel_rfl))
  f308 := Tryd.func70.trans (congrArg some (by kernel_rfl))
  f309 := Tryd.func71.trans (congrArg some (by kernel_rfl))
  f310 := Tryd.func72.trans (congrArg some (by kernel_rfl))
  f329 := Tryd.func83.trans (congrArg some (by kernel_rfl))
  f330 := Tryd.func84.trans (congrArg some (by kernel_rfl))
  f333 := Tryd.func82.trans (congrArg some (by kernel_rfl))
  f334 := Tryd.func85.trans (congrArg some (by kernel_rfl))
  f335 := Tryd.func86.trans (congrArg some (by kernel_rfl))
  f336 := Tryd.func87.trans (congrArg some (by kernel_rfl))
  f344 := Tryd.func94.trans (congrArg some (by kernel_rfl))
  t0 := Tryd.underlying0
  a0 := Tryd.isAgg0
  z0 := Tryd.sizeOf0
  v0 := Tryd.zeroValue0
  t3 := Tryd.underlying3
  a3 := Tryd.isAgg3
  z3 := Tryd.sizeOf3
  v3 := Tryd.zeroValue3
  t4 := Tryd.underlying4
  a4 := Tryd.isAgg4
  z4 := Tryd.sizeOf4
  v4 := Tryd.zeroValue4
  t5 := Tryd.underlying5
  a5 := Tryd.isAgg5
  z5 := Tryd.sizeOf5
  v5 := Tryd.zeroValue5
  t9 := Tryd.underlying9
  a9 := Tryd.isAgg9
  z9 := Tryd.sizeOf9
  v9 := Tryd.zeroValue9
  t31 := Tryd.underlying80
  a31 := Tryd.isAgg80
  z31 := Tryd.sizeOf80
  v31 := Tryd.zeroValue80
  t46 := Tryd.underlying97
  a46 := Tryd.isAgg97
  z46 := Tryd.sizeOf97
  v46 := Tryd.zeroValue97
  t51 := Tryd.underlying114
  a51 := Tryd.isAgg114
  z51 := Tryd.sizeOf114
  v51 := Tryd.zeroValue114
  t53 := Tryd.underlying116
  a53 := Tryd.isAgg116
  z53 := Tryd.sizeOf116
  v53 := Tryd.zeroValue116
  t131 := Tryd.underlying39
  a131 := Tryd.isAgg39
  z131 := Tryd.sizeOf39
  v131 := Tryd.zeroValue39
  t182 := Tryd.underlying106
  a182 := Tryd.isAgg106
  z182 := Tryd.sizeOf106
  v182 := Tryd.zeroValue106
  t183 := Tryd.underlying107
  a183 := Tryd.isAgg107
  z183 := Tryd.sizeOf107
  v183 := Tryd.zeroValue107
  t218 := Tryd.underlying121
  a218 := Tryd.isAgg121
  z218 := Tryd.sizeOf121
  v218 := Tryd.zeroValue121
  t222 := Tryd.underlying125
  a222 := Tryd.isAgg125
  z222 := Tryd.sizeOf125
  v222 := Tryd.zeroValue125
  t228 := Tryd.underlying130
  a228 := Tryd.isAgg130
  z228 := Tryd.sizeOf130
  v228 := Tryd.zeroValue130
  t229 := Tryd.underlying131
  a229 := Tryd.isAgg131
  z229 := Tryd.sizeOf131
  v229 := Tryd.zeroValue131
def ren217 : Go.Shelf.Ren := ⟨fun | 217 => 58 | 266 => 75 | n => n, fun | 9 => 9 | 5 => 5 | 3 => 3 | n => n, fun n => n⟩
theorem lays217 : Lays.n217 Tryd.prog ren217 where
  mixed := by kernel_rfl
  f217 := Tryd.func58.trans (congrArg some (by kernel_rfl))
  f266 := Tryd.func75.trans (congrArg some (by kernel_rfl))
  t3 := Tryd.underlying3
  a3 := Tryd.isAgg3
  z3 := Tryd.sizeOf3
  v3 := Tryd.zeroValue3
  t5 := Tryd.underlying5
  a5 := Tryd.isAgg5
  z5 := Tryd.sizeOf5
  v5 := Tryd.zeroValue5
  t9 := Tryd.underlying9
  a9 := Tryd.isAgg9
  z9 := Tryd.sizeOf9
  v9 := Tryd.zeroValue9
def ren221 : Go.Shelf.Ren := ⟨fun | 221 => 51 | 268 => 61 | 138 => 62 | 143 => 63 | 195 => 78 | 197 => 79 | 218 => 80 | 219 => 81 | 260 => 90 | 217 => 58 | 225 => 91 | 224 => 92 | 267 => 93 | 266 => 75 | 314 => 97 | n => n, fun | 9 => 9 | 3 => 3 | 31 => 80 | 4 => 4 | 0 => 0 | 105 => 119 | 21 => 21 | 5 => 5 | 46 => 97 | 119 => 134 | 139 => 137 | 138 => 136 | 146 => 138 | 51 => 114 | n => n, fun | 1 => 0 | 3 => 1 | 4 => 2 | n => n⟩
theorem lays221 : Lays.n221 Tryd.prog ren221 where
  mixed := by kernel_rfl
  f138 := Tryd.func62.trans (congrArg some (by kernel_rfl))
  f143 := Tryd.func63.trans (congrArg some (by kernel_rfl))
  f195 := Tryd.func78.trans (congrArg some (by kernel_rfl))
  f197 := Tryd.func79.trans (congrArg some (by kernel_rfl))
  f217 := Tryd.func58.trans (congrArg some (by kernel_rfl))
  f218 := Tryd.func80.trans (congrArg some (by kernel_rfl))
  f219 := Tryd.func81.trans (congrArg some (by kernel_rfl))
  f221 := Tryd.func51.trans (congrArg some (by kernel_rfl))
  f224 := Tryd.func92.trans (congrArg some (by kernel_rfl))
  f225 := Tryd.func91.trans (congrArg some (by kernel_rfl))
  f260 := Tryd.func90.trans (congrArg some (by kernel_rfl))
  f266 := Tryd.func75.trans (congrArg some (by kernel_rfl))
  f267 := Tryd.func93.trans (congrArg some (by kernel_rfl))
  f268 := Tryd.func61.trans (congrArg some (by kernel_rfl))
  f314 := Tryd.func97.trans (congrArg some (by kernel_rfl))
  t0 := Tryd.underlying0
  a0 := Tryd.isAgg0
  z0 := Tryd.sizeOf0
  v0 := Tryd.zeroValue0
  t3 := Tryd.underlying3
  a3 := Tryd.isAgg3
  z3 := Tryd.sizeOf3
  v3 := Tryd.zeroValue3
  t4 := Tryd.underlying4
  a4 := Tryd.isAgg4
  z4 := Tryd.sizeOf4
  v4 := Tryd.zeroValue4
  t5 := Tryd.underlying5
  a5 := Tryd.isAgg5
  z5 := Tryd.sizeOf5
  v5 := Tryd.zeroValue5
  t9 := Tryd.underlying9
  a9 := Tryd.isAgg9
  z9 := Tryd.sizeOf9
  v9 := Tryd.zeroValue9
  t21 := Tryd.underlying21
  a21 := Tryd.isAgg21
  z21 := Tryd.sizeOf21
  v21 := Tryd.zeroValue21
  t31 := Tryd.underlying80
  a31 := Tryd.isAgg80
  z31 := Tryd.sizeOf80
  v31 := Tryd.zeroValue80
  t46 := Tryd.underlying97
  a46 := Tryd.isAgg97
  z46 := Tryd.sizeOf97
  v46 := Tryd.zeroValue97
  t51 := Tryd.underlying114
  a51 := Tryd.isAgg114
  z51 := Tryd.sizeOf114
  v51 := Tryd.zeroValue114
  t105 := Tryd.underlying119
  a105 := Tryd.isAgg119
  z105 := Tryd.sizeOf119
  v105 := Tryd.zeroValue119
  t119 := Tryd.underlying134
  a119 := Tryd.isAgg134
  z119 := Tryd.sizeOf134
  t138 := Tryd.underlying136
  a138 := Tryd.isAgg136
  z138 := Tryd.sizeOf136
  v138 := Tryd.zeroValue136
  t139 := Tryd.underlying137
  a139 := Tryd.isAgg137
  z139 := Tryd.sizeOf137
  v139 := Tryd.zeroValue137
  t146 := Tryd.underlying138
  a146 := Tryd.isAgg138
  z146 := Tryd.sizeOf138
  v146 := Tryd.zeroValue138
  g1 := by kernel_rfl
  g3 := by kernel_rfl
  g4 := by kernel_rfl
def ren151 : Go.Shelf.Ren := ⟨fun | 151 => 89 | 152 => 96 | 137 => 47 | 119 => 99 | 224 => 92 | 225 => 91 | 217 => 58 | 266 => 75 | n => n, fun | 9 => 9 | 21 => 21 | 4 => 4 | 3 => 3 | 5 => 5 | 0 => 0 | 46 => 97 | n => n, fun n => n⟩
theorem lays151 : Lays.n151 Tryd.prog ren151 where
  mixed := by kernel_rfl
  f119 := Tryd.func99.trans (congrArg some (by kernel_rfl))
  f137 := Tryd.func47.trans (congrArg some (by kernel_rfl))
  f151 := Tryd.func89.trans (congrArg some (by kernel_rfl))
  f152 := Tryd.func96.trans (congrArg some (by kernel_rfl))
  f217 := Tryd.func58.trans (congrArg some (by kernel_rfl))
  f224 := Tryd.func92.trans (congrArg some (by kernel_rfl))
  f225 := Tryd.func91.trans (congrArg some (by kernel_rfl))
  f266 := Tryd.func75.trans (congrArg some (by kernel_rfl))
  t0 := Tryd.underlying0
  a0 := Tryd.isAgg0
  z0 := Tryd.sizeOf0
  v0 := Tryd.zeroValue0
  t3 := Tryd.underlying3
  a3 := Tryd.isAgg3
  z3 := Tryd.sizeOf3
  v3 := Tryd.zeroValue3
  t4 := Tryd.underlying4
  a4 := Tryd.isAgg4
  z4 := Tryd.sizeOf4
  v4 := Tryd.zeroValue4
  t5 := Tryd.underlying5
  a5 := Tryd.isAgg5
  z5 := Tryd.sizeOf5
  v5 := Tryd.zeroValue5
  t9 := Tryd.underlying9
  a9 := Tryd.isAgg9
  z9 := Tryd.sizeOf9
  v9 := Tryd.zeroValue9
  t21 := Tryd.underlying21
  a21 := Tryd.isAgg21
  z21 := Tryd.sizeOf21
  v21 := Tryd.zeroValue21
  t46 := Tryd.underlying97
  a46 := Tryd.isAgg97
  z46 := Tryd.sizeOf97
  v46 := Tryd.zeroValue97
end Go.Proofs.YtklepphkbbjbjaaDoor
namespace Go.Proofs.YtklepphkbbjbjaaDoor
set_option linter.unusedVariables false
set_option maxRecDepth 100000
open Go Go.Shelf
def globs (m : Int) : List (Nat × Nat × Option Value) := [(ren221.g 1, 0, some (.int .i64 m))]
theorem tab0_ok (Gl : List (Nat × Nat × Option Value)) : AllJ Tryd.prog Gl tab0 := ⟨⟨sprim_sort lays190, ora_sort⟩, K30, K21, trivial⟩
theorem tab0_det : detJ tab0 = true := by kernel_rfl
theorem ora0 (n : Nat) : OraOk (ciJ PR0 n) :=
  evJ_ora (fun f np b hF => detJ_get tab0_det hF) (fun f sem hF => ((tab0_ok []).get hF).2) n
theorem ora_rows {g : Int → Sto → Option (List Int × Sto)} (hg : ∀ k σ o, g k (σ.setO o) = (g k σ).map fun z => (z.1, z.2.setO o)) : ∀ (es : List (List DVal)) (σ : Sto) (o : Nat → Nat), rowsS g es (σ.setO o) = (rowsS g es σ).map fun z => (z.1, z.2.setO o)
  | [], σ, o => rfl
  | e :: es, σ, o => by
    unfold rowsS
    split
    · rename_i q; cases q
    · rename_i k es' q
      simp only [List.cons.injEq] at q
      obtain ⟨rfl, rfl⟩ := q
      dsimp only
      rw [hg]
      cases g k σ with
      | none => rfl
      | some a =>
        simp only [Option.map_some, Option.bind_some]
        rw [ora_rows hg]
        cases rowsS g es a.2 <;> rfl
    · rfl
theorem ora_walk (t : DVal) : ∀ (n : Nat) (k : Int) (σ : Sto) (o : Nat → Nat), walkS t n k (σ.setO o) = (walkS t n k σ).map fun z => (z.1, z.2.setO o)
  | 0, _, _, _ => rfl
  | n + 1, k, σ, o => by
    unfold walkS
    rw [ora0 1000]
    cases ciJ PR0 1000 21 [t, .int .i64 k] σ with
    | none => rfl
    | some y =>
      obtain ⟨r, τ⟩ := y
      simp only [Option.map_some, Option.bind_some, setO2]
      split
      · rfl
      · split
        · rw [ora_rows (ora_walk t n)]
          cases rowsS (walkS t n) _ τ <;> rfl
        · rfl
      · rfl
theorem ora_listB (t : DVal) (σ : Sto) (o : Nat → Nat) : listB t (σ.setO o) = (listB t σ).map (setO2 o) := by
  unfold listB
  rw [ora0 1000]
  cases ciJ PR0 1000 30 [t] σ with
  | none => rfl
  | some y =>
    obtain ⟨r, τ⟩ := y
    simp only [Option.map_some, Option.bind_some, setO2]
    split
    · rfl
    · rw [ora_walk]
      cases walkS t 1000 1 τ with
      | none => rfl
      | some z =>
        simp only [Option.map_some, Option.bind_some]
        split <;> rfl
    · rfl
theorem ora_list : OraSem listSem := by
  intro ds σ o
  unfold listSem
  split
  · exact ora_listB _ _ _
  · exact ora_listB _ _ _
  · rfl
theorem sprim_list (Gl : List (Nat × Nat × Option Value)) : ImpOk Tryd.prog Gl 23 listSem := by
  intro V σ σ' w ds vs r hi hG hv hs
  have hcs := (allJ_sound (tab0_ok Gl) tab0_det 1000).2
  refine ⟨⟨Tryd.f23, Tryd.func23, by kernel_rfl, rfl⟩, ?_⟩
  unfold listSem at hs
  split at hs
  · obtain ⟨v, rfl, h1⟩ := hv.one
    have h1' := h1
    simp only [VRel] at h1'
    subst h1'
    exact callsIn_wide.1 (list_in hcs _ none hi hG (by simp only [VRel]) hs 0)
  · obtain ⟨v, rfl, h1⟩ := hv.one
    have h1' := h1
    simp only [VRel] at h1'
    obtain ⟨hm, hid, rfl⟩ := h1'
    exact callsIn_wide.1 (list_in hcs _ _ hi hG (by simp only [VRel]; exact ⟨hm, hid, trivial⟩) hs 0)
  · cases hs
theorem ora_copy : OraSem copySem := by
  have hB : ∀ t σ o, copyB t (σ.setO o) = (copyB t σ).map (setO2 o) := fun t σ o => by
    unfold copyB
    rw [ora0 1000]
    cases ciJ PR0 1000 30 [t] σ with
    | none => rfl
    | some y =>
      obtain ⟨r, τ⟩ := y
      simp only [Option.map_some, Option.bind_some, setO2]
      split
      · rfl
      · split
        · exact copyT_ora _ τ o
        · rfl
      · rfl
  intro ds σ o
  unfold copySem
  split
  · exact hB _ _ _
  · exact hB _ _ _
  · rfl
theorem sprim_copy (Gl : List (Nat × Nat × Option Value)) : ImpOk Tryd.prog Gl 27 copySem := by
  intro V σ σ' w ds vs r hi hG hv hs
  have hcs := (allJ_sound (tab0_ok Gl) tab0_det 1000).2
  refine ⟨⟨Tryd.f27, Tryd.func27, by kernel_rfl, rfl⟩, ?_⟩
  unfold copySem at hs
  split at hs
  · obtain ⟨v, rfl, h1⟩ := hv.one
    have h1' := h1
    simp only [VRel] at h1'
    subst h1'
    exact callsIn_wide.1 (copy_in hcs _ none hi hG (by simp only [VRel]) hs 0)
  · obtain ⟨v, rfl, h1⟩ := hv.one
    have h1' := h1
    simp only [VRel] at h1'
    obtain ⟨hm, hid, rfl⟩ := h1'
    exact callsIn_wide.1 (copy_in hcs _ _ hi hG (by simp only [VRel]; exact ⟨hm, hid, trivial⟩) hs 0)
  · cases hs
theorem table_ok (m : Int) : AllJ Tryd.prog (globs m) table :=
  ⟨prim_split lays221 (by kernel_rfl) m (by simp [globs]), prim_containsRune lays151, prim_indexByte lays217, ⟨sprim_sort lays190, ora_sort⟩, ⟨sprim_list _, ora_list⟩, ⟨sprim_copy _, ora_copy⟩, K7, K9, K10, K11, K12, K13, K14, K15, K16, K18, K19, K20, K21, K22, K24, K25, K26, K28, K29, K30, K31, K32, K33, K34, K35, K36, K37, K38, K39, K42, K43, K44, K47, K48, K49, K50, K56, K59, K60, K76, K77, K88, K95, K98, trivial⟩
theorem table_det : detJ table = true := by kernel_rfl
end Go.Proofs.YtklepphkbbjbjaaDoor
namespace Go.Proofs.YtklepphkbbjbjaaDoor
set_option linter.unusedVariables false
set_option maxRecDepth 100000
open Go Go.ChangeShapes Go.WideShapes Go.ChangeAt Go.RowKit
theorem own : ownKnob Tryd.prog.godebug = none := by kernel_rfl
theorem laidOut : laidOutB Tryd.prog = true := by kernel_rfl
theorem maxLenCell {W : World} (h : W.ShapedOpen Tryd.prog) : ∃ m, W.cell? ⟨0, 0, none⟩ = some (.int .i64 m) :=
  cell_of_shapedOpen_int (zero := #[.int .i64 0]) (t := 3) h (of_decide_eq_true (by kernel_rfl)) (by kernel_rfl) rfl (by kernel_rfl) (by kernel_rfl) Tryd.underlying3
def argS : List TypeId := [3, 9, 32, 58]
theorem argS_plain : plainS Tryd.prog argS = true := by kernel_rfl
theorem call_true {f : Nat} {fn : Func} (hfn : Tryd.prog.funcs[f]? = some fn) (hlaw : ∀ k Ds, DTyArgs Tryd.prog k fn.params.toList Ds → ∃ n, cpJ PR n f Ds = some (.bool true))
    (hp : fn.params.toList.all argS.contains = true)
    {H : Type} {enc : TypeId × Value → H} {W : World} {base : Nat} {args : Array Value} {ds : List (DataW H)} {p : List MemPlace}
    (hval : ∀ (j : Nat) t v, fn.params[j]? = some t → args[j]? = some v → Value.okWide Tryd.prog W .any base t v)
    (hA : DataW.TrodAll enc Tryd.prog W 0 (fun _ => true) true fn.params.toList args.toList ds p) (hsh : W.ShapedOpen Tryd.prog) :
    Calls Tryd.prog f args W fun e W' => e = .returned (.bool true) ∧ Below W.heap.size W W' := by
  obtain ⟨m, hm⟩ := maxLenCell hsh
  obtain ⟨k, Ds, h1, h2⟩ := args_rel (w := W) argS_plain (base := base) hp (fun j t v ht hv => hval j t v (by simpa using ht) (by simpa using hv)) hA
  have hb : (0 : Nat) < W.heap.size := by
    unfold World.cell? at hm
    simp only at hm
    split at hm
    · rename_i hh; exact (Array.getElem?_eq_some_iff.1 hh).1
    · cases hm
  have hG : HasG (globs m) (oldI W) W := by
    intro x hx
    simp only [globs, List.mem_singleton] at hx
    subst hx
    exact ⟨hb, hm⟩
  obtain ⟨n, hlaw⟩ := hlaw k Ds h1
  have := ((allJ_sound (table_ok m) table_det n).1 f (oldI W) W Ds args.toList (.bool true) (fun b k h => h) hG h2 hlaw).2
  refine (by simpa using this : Calls Tryd.prog f args W _).mono ?_
  rintro e W' ⟨v, rfl, hbel, hrel⟩
  simp only [HRel, VRel] at hrel
  exact ⟨by rw [hrel], hbel⟩
theorem contract {f : Nat} {fn : Func} {s : ChangeSpec} (hfn : Tryd.prog.funcs[f]? = some fn) (hlaw : ∀ k Ds, DTyArgs Tryd.prog k fn.params.toList Ds → ∃ n, cpJ PR n f Ds = some (.bool true))
    (hp : fn.params.toList.all argS.contains = true) (hres : fn.resultTypes = #[4]) (hvars : s.vars = [])
    (hspec : ∀ (H : Type) (ds : List (DataW H)), ds.length = fn.params.toList.length → s.fn H ds = { results := [.lit (.bool true)], args := ds, vars := [] })
    (ht : ∀ t, t ∈ fn.params.toList → Tryd.prog.readableRec t = true ∧ t < Tryd.prog.types.size)
    {H : Type} {enc : TypeId × Value → H} {W : World} {base : Nat} {args : Array Value} {ds gs : List (DataW H)} {before : List MemPlace}
    (hval : ∀ (j : Nat) t v, fn.params[j]? = some t → args[j]? = some v → Value.okWide Tryd.prog W .any base t v)
    (hW : DataW.Whole enc Tryd.prog fn.params.toList s.vars false W args.toList ds gs before) (hsh : W.ShapedOpen Tryd.prog) :
    Calls Tryd.prog f args W fun e W' => ∃ v, e = .returned v ∧ s.post enc Tryd.prog fn false true false false W args v W' := by
  obtain ⟨p, q, hA, hV, hpq, hz, hn⟩ := id hW
  have hg : gs = [] := by
    rw [hvars] at hV
    cases gs with
    | nil => rfl
    | cons g gs => exact hV.elim
  subst hg
  have hlen : ds.length = fn.params.toList.length := by
    have : ∀ {ts : List TypeId} {vs : List Value} {ds : List (DataW H)} {p : List MemPlace}, DataW.TrodAll enc Tryd.prog W 0 (fun _ => true) true ts vs ds p → ds.length = ts.length := by
      intro ts
      induction ts with
      | nil => intro vs ds p h; cases vs <;> cases ds <;> first | rfl | exact h.elim
      | cons t ts ih =>
        intro vs ds p h
        cases vs with
        | nil => exact h.elim
        | cons v vs =>
          cases ds with
          | nil => exact h.elim
          | cons d ds => obtain ⟨p1, q1, -, h2, -⟩ := h; simp [ih h2]
    exact this hA
  refine (call_true hfn hlaw hp hval hA hsh).mono ?_
  rintro e W' ⟨rfl, hb⟩
  exact ⟨_, rfl, post_of_true hW hvars hres Tryd.underlying4 (by rw [List.append_nil]; exact hspec H ds hlen) laidOut ht hb⟩
def firstCells : Array Value := (Go.Pinned.utf8FirstZ.map fun (n : Nat) => Value.int .u8 (n : Int)).toArray
def acceptCells : Array Value := ([128, 191, 160, 191, 128, 159, 144, 191, 128, 143, 0, 0, 0, 0, 0, 0, 0, 0, 0, 0, 0, 0, 0, 0, 0, 0, 0, 0, 0, 0, 0, 0].map fun n => Value.int .u8 n).toArray
def withCells (c : Array Value) : Obj → Obj
  | .cells _ t frozen => .cells c t frozen
  | o => o
noncomputable def laidWorld (os : Os) : World :=
  { World.holding Tryd.prog os ⟨#[], #[], []⟩ with heap := ((World.holding Tryd.prog os ⟨#[], #[], []⟩).heap.modify 1 (withCells firstCells)).modify 2 (withCells acceptCells) }
end Go.Proofs.YtklepphkbbjbjaaDoor
