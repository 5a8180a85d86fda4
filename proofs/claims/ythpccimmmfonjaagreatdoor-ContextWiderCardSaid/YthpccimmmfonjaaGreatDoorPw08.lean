/- Texts of this proof, part 8: see the card for what is proved. -/
import Derived.Test.YthpccimmmfonjaaGreatDoorPw01
import Derived.Test.YthpccimmmfonjaaGreatDoorPw05
import Derived.Shelf.Strings.Cut
import Derived.Lib.Join
import Derived.Shelf.Strings.OnBuilder
import Derived.Shelf.Strings.Split
import Derived.Test.YthpccimmmfonjaaGreatDoorChecked
import Derived.KernelRfl
import Derived.Test.YthpccimmmfonjaaGreatDoorPw07
import Derived.Test.YthpccimmmfonjaaGreatDoorPw04
import Derived.Test.YthpccimmmfonjaaGreatDoorTie
import Derived.Test.YthpccimmmfonjaaGreatDoorCards
import Derived.ProofKit
import Derived.OpenShut
import Derived.Deep.DeepHandedRow
namespace Go.Proofs.YthpccimmmfonjaaGreatDoor
set_option linter.unusedVariables false
set_option linter.unusedSimpArgs false
open Go Go.RowKit Go.Shelf
section
variable {P : Program} {ρ : Ren} {Gl : List (Nat × Value)}
theorem Below.drewN {w : World} {B n : Nat} : Below B w (w.drewN n) := ⟨rfl, rfl, rfl, Nat.le_refl _, fun _ _ => rfl⟩
theorem prim_cut (L : Lays.n145 P ρ) (m : Int) (hm : (ρ.g 1, Value.int .i64 m) ∈ Gl) : PureOk P Gl (ρ.f 145) cutSem := by
  intro I w ds vs r hI hG hv hs
  unfold cutSem at hs
  split at hs
  · rename_i s sep
    obtain ⟨v, u, rfl, h1, h2⟩ := hv.two
    simp only [VRel] at h1 h2
    subst h1 h2
    split at hs
    · rename_i hlt
      simp only [Option.some.injEq] at hs
      subst hs
      refine ⟨⟨_, L.f145, rfl, rfl⟩, (Any.strings_Cut L ⟨s.toArray⟩ ⟨sep.toArray⟩ m w (by simpa [ByteArray.size] using hlt) (hG _ hm).2).mono ?_⟩
      rintro e w' ⟨rfl, n, rfl⟩
      refine ⟨_, rfl, Below.drewN, ?_⟩
      simp [HRel, VRel, VRels]
    · cases hs
  · cases hs
theorem strs_rel {V : Vw} {w : World} {b : Nat} : ∀ {es : List (List DVal)} {xs : List (List UInt8)} {off : Nat}, RowsRel V w 2 b 1 off es → strsOf es = some xs →
    xs.length = es.length ∧ ∀ (j : Nat) (x : List UInt8), xs[j]? = some x → V.imm b (off + j) ∧ w.cell? ⟨b, off + j, none⟩ = some (.string ⟨x.toArray⟩)
  | [], xs, off, h, hs => by
    simp only [strsOf, Option.some.injEq] at hs
    subst hs
    exact ⟨rfl, fun j x hx => by simp at hx⟩
  | e :: es, xs, off, h, hs => by
    unfold strsOf at hs
    split at hs
    · rename_i he; cases he
    · rename_i s es' he
      simp only [List.cons.injEq] at he
      obtain ⟨rfl, rfl⟩ := he
      simp only [Option.map_eq_some_iff] at hs
      obtain ⟨ys, hy, rfl⟩ := hs
      simp only [RowsRel, RowRel] at h
      obtain ⟨-, ⟨h1, ⟨v, h2, -, h3⟩, -⟩, h4⟩ := h
      simp only [VRel] at h3
      subst h3
      obtain ⟨g1, g2⟩ := strs_rel h4 hy
      refine ⟨by simp [g1], fun j x hx => ?_⟩
      cases j with
      | zero => simp only [List.getElem?_cons_zero, Option.some.injEq] at hx; subst hx; exact ⟨h1, h2⟩
      | succ j => rw [List.getElem?_cons_succ] at hx; have := g2 j x hx; rwa [show off + 1 + j = off + (j + 1) by omega] at this
    · cases hs
theorem prim_join (L : Lays.n156 P ρ) (X : Builder.Extra P ρ) : PureOk P Gl (ρ.f 156) joinSem := by
  intro I w ds vs r hI hG hv hs
  have hcall : callable P (ρ.f 156) := ⟨_, L.f156, rfl, rfl⟩
  unfold joinSem at hs
  split at hs
  · rename_i own es sep
    obtain ⟨v, u, rfl, h1, h2⟩ := hv.two
    simp only [VRel] at h1 h2
    subst h2
    obtain ⟨-, b, off, cap, rfl, h3, -, h4⟩ := h1
    simp only [Option.bind_eq_some_iff] at hs
    obtain ⟨xs, hx, hs⟩ := hs
    split at hs
    · rename_i hlen
      simp only [Option.some.injEq] at hs
      subst hs
      obtain ⟨g1, g2⟩ := strs_rel h4 hx
      refine ⟨hcall, ?_⟩
      cases hxs : xs with
      | nil =>
        subst hxs
        have he : es.length = 0 := by simpa using g1.symm
        rw [he]
        refine (Any.strings_Join_none L X _ cap ⟨sep.toArray⟩ w).mono ?_
        rintro e w' ⟨rfl, rfl⟩
        exact ⟨_, rfl, Below.refl _ _, by simp [HRel, VRel, Lib.join_nil]⟩
      | cons x0 xs' =>
        have hb : b < w.heap.size := by
          have := (g2 0 x0 (by rw [hxs]; rfl)).1
          exact (VI_imm.1 this).1
        have := Any.strings_Join L X b off cap (xs.map fun x => (⟨x.toArray⟩ : ByteArray)) ⟨sep.toArray⟩ w (fun j x hj => by
          rw [List.getElem?_map, Option.map_eq_some_iff] at hj
          obtain ⟨y, hy, rfl⟩ := hj
          exact (g2 j y hy).2) hb (by simpa using hlen.1) (by simp; omega) (by simpa [Function.comp_def] using hlen.2)
        rw [List.length_map, g1] at this
        refine this.mono ?_
        rintro e w' ⟨rfl, hbel⟩
        refine ⟨_, rfl, hbel, ?_⟩
        simp [HRel, VRel, Function.comp_def, hxs]
    · cases hs
  · rename_i sep
    obtain ⟨v, u, rfl, h1, h2⟩ := hv.two
    simp only [VRel] at h1 h2
    subst h1 h2
    simp only [Option.some.injEq] at hs
    subst hs
    refine ⟨hcall, (Any.strings_Join_none L X none 0 ⟨sep.toArray⟩ w).mono ?_⟩
    rintro e w' ⟨rfl, rfl⟩
    exact ⟨_, rfl, Below.refl _ _, by simp [HRel, VRel]⟩
  · cases hs
theorem Below.alloc' {w : World} {o : Obj} : Below w.heap.size w (w.alloc o) := ⟨rfl, rfl, rfl, by simp, fun b hb => heap_push_old w o hb⟩
theorem strs_rows {V : Vw} {w : World} {b : Nat} : ∀ {xs : List (List UInt8)} {off : Nat}, (∀ (j : Nat) (x : List UInt8), xs[j]? = some x → V.imm b (off + j) ∧ w.cell? ⟨b, off + j, none⟩ = some (.string ⟨x.toArray⟩)) →
    RowsRel V w 2 b 1 off (xs.map fun x => [DVal.str x])
  | [], off, h => by simp only [List.map_nil, RowsRel]
  | x :: xs, off, h => by
    simp only [List.map_cons, RowsRel, RowRel, and_true]
    obtain ⟨h1, h2⟩ := h 0 x rfl
    refine ⟨rfl, ⟨h1, _, h2, rfl, by simp only [VRel]⟩, strs_rows fun j y hy => ?_⟩
    have := h (j + 1) y (by simpa using hy)
    rwa [show off + 1 + j = off + (j + 1) by omega]
theorem prim_split (L : Lays.n221 P ρ) (hi9 : (P.info? (ρ.t 9)).map (fun i => (i.zero, i.size, i.bytes)) = some (some (.string ByteArray.empty), 1, 16)) (m : Int) (hm : (ρ.g 1, Value.int .i64 m) ∈ Gl) : PureOk P Gl (ρ.f 221) genSplitSem := by
  intro I w ds vs r hI hG hv hs
  have hcall : callable P (ρ.f 221) := ⟨_, L.f221, rfl, rfl⟩
  unfold genSplitSem at hs
  split at hs
  · rename_i s sep
    simp only [VRels] at hv
    obtain ⟨v1, _, rfl, h1, v2, _, rfl, h2, v3, _, rfl, h3, v4, _, rfl, h4, rfl⟩ := hv
    simp only [VRel] at h1 h2 h3 h4
    subst h1 h2 h3 h4
    split at hs
    · rename_i hlen
      simp only [Option.some.injEq] at hs
      subst hs
      refine ⟨hcall, ?_⟩
      have hcnt : Lib.countB ⟨s.toArray⟩ ⟨sep.toArray⟩ = Lib.count s sep := rfl
      refine (Any.strings_genSplit L hi9 ⟨s.toArray⟩ ⟨sep.toArray⟩ 0 (-1) (min (Lib.count s sep + 1) (s.length + 1)) m w (by simpa [ByteArray.size] using hlen.1) (hG _ hm).2 (by simpa [ByteArray.size] using hlen.2) (Nat.zero_le _) (by omega) (by omega)
        (by rw [hcnt]; simp [ByteArray.size]; omega)).mono ?_
      rintro e w' ⟨rfl, rfl⟩
      have hdata := Lib.splitB_data ⟨sep.toArray⟩ 0 (min (Lib.count s sep + 1) (s.length + 1) - 1) ⟨s.toArray⟩
      generalize hB : Lib.splitB ⟨sep.toArray⟩ 0 (min (Lib.count s sep + 1) (s.length + 1) - 1) ⟨s.toArray⟩ = B at hdata
      have hN : B.length ≤ min (Lib.count s sep + 1) (s.length + 1) := by
        have := Lib.splitB_length_le ⟨sep.toArray⟩ 0 (min (Lib.count s sep + 1) (s.length + 1) - 1) ⟨s.toArray⟩
        rw [hB] at this
        omega
      have hS : Lib.splitN s sep (Lib.count s sep + 1) = B.map (·.data.toList) := by unfold Lib.splitN; rw [hdata]
      rw [hS]
      refine ⟨_, rfl, Below.alloc', ?_⟩
      unfold HRel
      simp only [VRel, List.length_map]
      refine ⟨.inr ⟨trivial, by omega⟩, _, _, _, rfl, hN, ⟨by omega, fun e => by omega, fun e => by omega⟩, strs_rows fun j x hx => ?_⟩
      rw [List.getElem?_map, Option.map_eq_some_iff] at hx
      obtain ⟨y, hy, rfl⟩ := hx
      refine ⟨VI_imm.2 ⟨by simp, .inr ⟨Nat.le_refl _, by simp, fun e => by simp at e⟩⟩, ?_⟩
      rw [cell_of_row _ _ _ _ _ (0, 0) (heap_alloc_new w _)]
      have hj : j < B.length := (List.getElem?_eq_some_iff.1 hy).1
      simp only [Nat.zero_add, Lib.cellsOf, List.getElem?_toArray]
      rw [List.getElem?_append_left (by simpa using hj), List.getElem?_map, hy]
      rfl
    · cases hs
  · cases hs
end
end Go.Proofs.YthpccimmmfonjaaGreatDoor
namespace Go.Proofs.YthpccimmmfonjaaGreatDoor
set_option linter.unusedVariables false
set_option maxRecDepth 100000
open Go Go.Shelf
def ren145 : Go.Shelf.Ren := ⟨fun | 145 => 54 | 220 => 101 | 219 => 133 | 217 => 151 | 225 => 152 | 224 => 153 | 267 => 154 | 266 => 167 | 314 => 168 | n => n, fun | 9 => 9 | 4 => 4 | 59 => 96 | 3 => 3 | 5 => 5 | 46 => 216 | 146 => 225 | 51 => 120 | n => n, fun | 1 => 0 | n => n⟩
theorem lays145 : Lays.n145 Tryz.prog ren145 where
  mixed := by kernel_rfl
  f145 := Tryz.func54.trans (congrArg some (by kernel_rfl))
  f217 := Tryz.func151.trans (congrArg some (by kernel_rfl))
  f219 := Tryz.func133.trans (congrArg some (by kernel_rfl))
  f220 := Tryz.func101.trans (congrArg some (by kernel_rfl))
  f224 := Tryz.func153.trans (congrArg some (by kernel_rfl))
  f225 := Tryz.func152.trans (congrArg some (by kernel_rfl))
  f266 := Tryz.func167.trans (congrArg some (by kernel_rfl))
  f267 := Tryz.func154.trans (congrArg some (by kernel_rfl))
  f314 := Tryz.func168.trans (congrArg some (by kernel_rfl))
  t3 := Tryz.underlying3
  a3 := Tryz.isAgg3
  z3 := Tryz.sizeOf3
  v3 := Tryz.zeroValue3
  t4 := Tryz.underlying4
  a4 := Tryz.isAgg4
  z4 := Tryz.sizeOf4
  v4 := Tryz.zeroValue4
  t5 := Tryz.underlying5
  a5 := Tryz.isAgg5
  z5 := Tryz.sizeOf5
  v5 := Tryz.zeroValue5
  t9 := Tryz.underlying9
  a9 := Tryz.isAgg9
  z9 := Tryz.sizeOf9
  v9 := Tryz.zeroValue9
  t46 := Tryz.underlying216
  a46 := Tryz.isAgg216
  z46 := Tryz.sizeOf216
  v46 := Tryz.zeroValue216
  t51 := Tryz.underlying120
  a51 := Tryz.isAgg120
  z51 := Tryz.sizeOf120
  v51 := Tryz.zeroValue120
  t59 := Tryz.underlying96
  a59 := Tryz.isAgg96
  z59 := Tryz.sizeOf96
  v59 := Tryz.zeroValue96
  t146 := Tryz.underlying225
  a146 := Tryz.isAgg225
  z146 := Tryz.sizeOf225
  v146 := Tryz.zeroValue225
  g1 := by kernel_rfl
def ren156 : Go.Shelf.Ren := ⟨fun | 156 => 107 | 165 => 136 | 166 => 137 | 169 => 138 | 240 => 158 | 241 => 159 | 276 => 172 | 277 => 173 | n => n, fun | 31 => 28 | 9 => 9 | 3 => 3 | 4 => 4 | 0 => 0 | 20 => 20 | 72 => 205 | 76 => 209 | 70 => 202 | 37 => 203 | 75 => 208 | 127 => 221 | 164 => 230 | 5 => 5 | 80 => 211 | n => n, fun n => n⟩
theorem lays156 : Lays.n156 Tryz.prog ren156 where
  mixed := by kernel_rfl
  f156 := Tryz.func107.trans (congrArg some (by kernel_rfl))
  f165 := Tryz.func136.trans (congrArg some (by kernel_rfl))
  f166 := Tryz.func137.trans (congrArg some (by kernel_rfl))
  f169 := Tryz.func138.trans (congrArg some (by kernel_rfl))
  f240 := Tryz.func158.trans (congrArg some (by kernel_rfl))
  f241 := Tryz.func159.trans (congrArg some (by kernel_rfl))
  f276 := Tryz.func172.trans (congrArg some (by kernel_rfl))
  f277 := Tryz.func173.trans (congrArg some (by kernel_rfl))
  t0 := Tryz.underlying0
  a0 := Tryz.isAgg0
  z0 := Tryz.sizeOf0
  v0 := Tryz.zeroValue0
  t3 := Tryz.underlying3
  a3 := Tryz.isAgg3
  z3 := Tryz.sizeOf3
  v3 := Tryz.zeroValue3
  t4 := Tryz.underlying4
  a4 := Tryz.isAgg4
  z4 := Tryz.sizeOf4
  v4 := Tryz.zeroValue4
  t9 := Tryz.underlying9
  a9 := Tryz.isAgg9
  z9 := Tryz.sizeOf9
  v9 := Tryz.zeroValue9
  t20 := Tryz.underlying20
  a20 := Tryz.isAgg20
  z20 := Tryz.sizeOf20
  v20 := Tryz.zeroValue20
  t31 := Tryz.underlying28
  a31 := Tryz.isAgg28
  z31 := Tryz.sizeOf28
  v31 := Tryz.zeroValue28
  t37 := Tryz.underlying203
  a37 := Tryz.isAgg203
  z37 := Tryz.sizeOf203
  v37 := Tryz.zeroValue203
  t70 := Tryz.underlying202
  a70 := Tryz.isAgg202
  z70 := Tryz.sizeOf202
  v70 := Tryz.zeroValue202
  t72 := Tryz.underlying205
  a72 := Tryz.isAgg205
  z72 := Tryz.sizeOf205
  v72 := Tryz.zeroValue205
  t75 := Tryz.underlying208
  a75 := Tryz.isAgg208
  z75 := Tryz.sizeOf208
  v75 := Tryz.zeroValue208
  t76 := Tryz.underlying209
  a76 := Tryz.isAgg209
  z76 := Tryz.sizeOf209
  v76 := Tryz.zeroValue209
  t127 := Tryz.underlying221
  a127 := Tryz.isAgg221
  z127 := Tryz.sizeOf221
  v127 := Tryz.zeroValue221
  t164 := Tryz.underlying230
  a164 := Tryz.isAgg230
  z164 := Tryz.sizeOf230
  v164 := Tryz.zeroValue230
def ren221 : Go.Shelf.Ren := ⟨fun | 221 => 135 | 268 => 155 | 138 => 156 | 143 => 157 | 195 => 169 | 197 => 170 | 218 => 171 | 219 => 133 | 260 => 175 | 217 => 151 | 225 => 152 | 224 => 153 | 267 => 154 | 266 => 167 | 314 => 168 | n => n, fun | 9 => 9 | 3 => 3 | 31 => 28 | 4 => 4 | 0 => 0 | 105 => 228 | 21 => 21 | 5 => 5 | 46 => 216 | 119 => 233 | 139 => 236 | 138 => 235 | 146 => 225 | 51 => 120 | n => n, fun | 1 => 0 | 3 => 1 | 4 => 2 | n => n⟩
theorem lays221 : Lays.n221 Tryz.prog ren221 where
  mixed := by kernel_rfl
  f138 := Tryz.func156.trans (congrArg some (by kernel_rfl))
  f143 := Tryz.func157.trans (congrArg some (by kernel_rfl))
  f195 := Tryz.func169.trans (congrArg some (by kernel_rfl))
  f197 := Tryz.func170.trans (congrArg some (by kernel_rfl))
  f217 := Tryz.func151.trans (congrArg some (by kernel_rfl))
  f218 := Tryz.func171.trans (congrArg some (by kernel_rfl))
  f219 := Tryz.func133.trans (congrArg some (by kernel_rfl))
  f221 := Tryz.func135.trans (congrArg some (by kernel_rfl))
  f224 := Tryz.func153.trans (congrArg some (by kernel_rfl))
  f225 := Tryz.func152.trans (congrArg some (by kernel_rfl))
  f260 := Tryz.func175.trans (congrArg some (by kernel_rfl))
  f266 := Tryz.func167.trans (congrArg some (by kernel_rfl))
  f267 := Tryz.func154.trans (congrArg some (by kernel_rfl))
  f268 := Tryz.func155.trans (congrArg some (by kernel_rfl))
  f314 := Tryz.func168.trans (congrArg some (by kernel_rfl))
  t0 := Tryz.underlying0
  a0 := Tryz.isAgg0
  z0 := Tryz.sizeOf0
  v0 := Tryz.zeroValue0
  t3 := Tryz.underlying3
  a3 := Tryz.isAgg3
  z3 := Tryz.sizeOf3
  v3 := Tryz.zeroValue3
  t4 := Tryz.underlying4
  a4 := Tryz.isAgg4
  z4 := Tryz.sizeOf4
  v4 := Tryz.zeroValue4
  t5 := Tryz.underlying5
  a5 := Tryz.isAgg5
  z5 := Tryz.sizeOf5
  v5 := Tryz.zeroValue5
  t9 := Tryz.underlying9
  a9 := Tryz.isAgg9
  z9 := Tryz.sizeOf9
  v9 := Tryz.zeroValue9
  t21 := Tryz.underlying21
  a21 := Tryz.isAgg21
  z21 := Tryz.sizeOf21
  v21 := Tryz.zeroValue21
  t31 := Tryz.underlying28
  a31 := Tryz.isAgg28
  z31 := Tryz.sizeOf28
  v31 := Tryz.zeroValue28
  t46 := Tryz.underlying216
  a46 := Tryz.isAgg216
  z46 := Tryz.sizeOf216
  v46 := Tryz.zeroValue216
  t51 := Tryz.underlying120
  a51 := Tryz.isAgg120
  z51 := Tryz.sizeOf120
  v51 := Tryz.zeroValue120
  t105 := Tryz.underlying228
  a105 := Tryz.isAgg228
  z105 := Tryz.sizeOf228
  v105 := Tryz.zeroValue228
  t119 := Tryz.underlying233
  a119 := Tryz.isAgg233
  z119 := Tryz.sizeOf233
  t138 := Tryz.underlying235
  a138 := Tryz.isAgg235
  z138 := Tryz.sizeOf235
  v138 := Tryz.zeroValue235
  t139 := Tryz.underlying236
  a139 := Tryz.isAgg236
  z139 := Tryz.sizeOf236
  v139 := Tryz.zeroValue236
  t146 := Tryz.underlying225
  a146 := Tryz.isAgg225
  z146 := Tryz.sizeOf225
  v146 := Tryz.zeroValue225
  g1 := by kernel_rfl
  g3 := by kernel_rfl
  g4 := by kernel_rfl
theorem extra156 : Builder.Extra Tryz.prog ren156 where
  sizeBuilder := by kernel_rfl
  liesBuilder := by kernel_rfl
  t5 := Tryz.underlying5
  a5 := Tryz.isAgg5
  z5 := Tryz.sizeOf5
  v5 := Tryz.zeroValue5
  infoByte := by kernel_rfl
  cellsByte := by kernel_rfl
  sizeByte := by kernel_rfl
  neB5 := by decide
end Go.Proofs.YthpccimmmfonjaaGreatDoor
namespace Go.Proofs.YthpccimmmfonjaaGreatDoor
set_option linter.unusedVariables false
set_option maxRecDepth 100000
open Go Go.Shelf
theorem table_ok (m : Int) : AllJ Tryz.prog [(0, .int .i64 m)] table :=
  ⟨prim_cut lays145 m (by simp [ren145]), prim_join lays156 extra156, prim_split lays221 (by kernel_rfl) m (by simp [ren221]), K8, K11, K12, K13, K15, K17, K18, K20, K22, K24, K26, K27, K28, K29, K30, K31, K34, K35, K36, K37, K38, K39, K40, K43, K46, K47, K48, K49, K53, K55, K56, K57, K58, K59, K60, K61, K62, K63, K64, K67, K68, K69, K70, K71, K72, K73, K74, K75, K76, K77, K78, K79, K80, K81, K82, K87, K88, K89, K90, K91, K92, K93, K100, K102, K103, K104, K105, K106, K108, K110, K111, K112, K113, K114, K115, K116, K117, K118, K119, K120, K121, K122, K123, K124, K125, K126, K134, K139, K140, K141, K142, K143, K144, K145, K146, K147, K160, K161, K162, K163, K164, K165, K166, K174, trivial⟩
end Go.Proofs.YthpccimmmfonjaaGreatDoor
namespace Go.Proofs.YthpccimmmfonjaaGreatDoor
set_option linter.unusedVariables false
set_option maxRecDepth 100000
open Go Go.ChangeShapes Go.WideShapes Go.ChangeAt Go.RowKit
theorem own : ownKnob Tryz.prog.godebug = none := by kernel_rfl
theorem laidOut : laidOutB Tryz.prog = true := by kernel_rfl
theorem maxLenCell {W : World} (h : W.ShapedOpen Tryz.prog) : ∃ m, W.cell? ⟨0, 0, none⟩ = some (.int .i64 m) :=
  cell_of_shapedOpen_int (zero := #[.int .i64 0]) (t := 3) h (of_decide_eq_true (by kernel_rfl)) (by kernel_rfl) rfl (by kernel_rfl) (by kernel_rfl) Tryz.underlying3
def argS : List TypeId := [3, 4, 9, 22, 23, 24, 25, 26, 27, 28, 29, 30, 31, 32, 33, 34, 35, 36, 37, 39, 40, 42, 44, 46, 65, 67, 69, 74, 94, 116, 119, 120, 122, 125, 128, 130, 132, 181, 183, 186, 193]
theorem argS_plain : plainS Tryz.prog argS = true := by kernel_rfl
theorem call_true {f : Nat} {fn : Func} (hfn : Tryz.prog.funcs[f]? = some fn) (hlaw : ∀ k Ds, DTyArgs Tryz.prog k fn.params.toList Ds → ∃ n, cpJ PR n f Ds = some (.bool true))
    (hp : fn.params.toList.all argS.contains = true)
    {H : Type} {enc : TypeId × Value → H} {W : World} {base : Nat} {args : Array Value} {ds : List (DataW H)} {p : List MemPlace}
    (hval : ∀ (j : Nat) t v, fn.params[j]? = some t → args[j]? = some v → Value.okWide Tryz.prog W .any base t v)
    (hA : DataW.TrodAll enc Tryz.prog W 0 (fun _ => true) true fn.params.toList args.toList ds p) (hsh : W.ShapedOpen Tryz.prog) :
    Calls Tryz.prog f args W fun e W' => e = .returned (.bool true) ∧ Below W.heap.size W W' := by
  obtain ⟨m, hm⟩ := maxLenCell hsh
  obtain ⟨k, Ds, h1, h2⟩ := args_rel (w := W) argS_plain (base := base) hp (fun j t v ht hv => hval j t v (by simpa using ht) (by simpa using hv)) hA
  have hb : (0 : Nat) < W.heap.size := by
    unfold World.cell? at hm
    simp only at hm
    split at hm
    · rename_i hh; exact (Array.getElem?_eq_some_iff.1 hh).1
    · cases hm
  have hG : HasG [(0, .int .i64 m)] (oldI W) W := by
    intro x hx
    simp only [List.mem_singleton] at hx
    subst hx
    exact ⟨hb, hm⟩
  obtain ⟨n, hlaw⟩ := hlaw k Ds h1
  have := ((allJ_sound (table_ok m) n).1 f (oldI W) W Ds args.toList (.bool true) (fun b k h => h) hG h2 hlaw).2
  refine (by simpa using this : Calls Tryz.prog f args W _).mono ?_
  rintro e W' ⟨v, rfl, hbel, hrel⟩
  simp only [HRel, VRel] at hrel
  exact ⟨by rw [hrel], hbel⟩
theorem contract {f : Nat} {fn : Func} {s : ChangeSpec} (hfn : Tryz.prog.funcs[f]? = some fn) (hlaw : ∀ k Ds, DTyArgs Tryz.prog k fn.params.toList Ds → ∃ n, cpJ PR n f Ds = some (.bool true))
    (hp : fn.params.toList.all argS.contains = true) (hres : fn.resultTypes = #[4]) (hvars : s.vars = [])
    (hspec : ∀ (H : Type) (ds : List (DataW H)), ds.length = fn.params.toList.length → s.fn H ds = { results := [.lit (.bool true)], args := ds, vars := [] })
    (ht : ∀ t, t ∈ fn.params.toList → Tryz.prog.readableRec t = true ∧ t < Tryz.prog.types.size)
    {H : Type} {enc : TypeId × Value → H} {W : World} {base : Nat} {args : Array Value} {ds gs : List (DataW H)} {before : List MemPlace}
    (hval : ∀ (j : Nat) t v, fn.params[j]? = some t → args[j]? = some v → Value.okWide Tryz.prog W .any base t v)
    (hW : DataW.Whole enc Tryz.prog fn.params.toList s.vars false W args.toList ds gs before) (hsh : W.ShapedOpen Tryz.prog) :
    Calls Tryz.prog f args W fun e W' => ∃ v, e = .returned v ∧ s.post enc Tryz.prog fn false true false false W args v W' := by
  obtain ⟨p, q, hA, hV, hpq, hz, hn⟩ := id hW
  have hg : gs = [] := by
    rw [hvars] at hV
    cases gs with
    | nil => rfl
    | cons g gs => exact hV.elim
  subst hg
  have hlen : ds.length = fn.params.toList.length := by
    have : ∀ {ts : List TypeId} {vs : List Value} {ds : List (DataW H)} {p : List MemPlace}, DataW.TrodAll enc Tryz.prog W 0 (fun _ => true) true ts vs ds p → ds.length = ts.length := by
      intro ts
      induction ts with
      | nil => intro vs ds p h; cases vs <;> cases ds <;> first | rfl | exact h.elim
      | cons t ts ih =>
        intro vs ds p h
        cases vs with
        | nil => exact h.elim
        | cons v vs =>
          cases ds with
          | nil => exact h.elim
          | cons d ds => obtain ⟨p1, q1, -, h2, -⟩ := h; simp [ih h2]
    exact this hA
  refine (call_true hfn hlaw hp hval hA hsh).mono ?_
  rintro e W' ⟨rfl, hb⟩
  exact ⟨_, rfl, post_of_true hW hvars hres Tryz.underlying4 (by rw [List.append_nil]; exact hspec H ds hlen) laidOut ht hb⟩
def firstCells : Array Value := (Go.Pinned.utf8FirstZ.map fun (n : Nat) => Value.int .u8 (n : Int)).toArray
def acceptCells : Array Value := ([128, 191, 160, 191, 128, 159, 144, 191, 128, 143, 0, 0, 0, 0, 0, 0, 0, 0, 0, 0, 0, 0, 0, 0, 0, 0, 0, 0, 0, 0, 0, 0].map fun n => Value.int .u8 n).toArray
def withCells (c : Array Value) : Obj → Obj
  | .cells _ t frozen => .cells c t frozen
  | o => o
noncomputable def laidWorld (os : Os) : World :=
  { World.holding Tryz.prog os ⟨#[], #[], []⟩ with heap := ((World.holding Tryz.prog os ⟨#[], #[], []⟩).heap.modify 1 (withCells firstCells)).modify 2 (withCells acceptCells) }
end Go.Proofs.YthpccimmmfonjaaGreatDoor
