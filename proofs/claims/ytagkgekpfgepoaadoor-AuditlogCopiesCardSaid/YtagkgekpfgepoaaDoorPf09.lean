/- Texts of this proof, part 9: see the card for what is proved. -/
import Derived.Test.YtagkgekpfgepoaaDoorPf02
import Derived.Test.YtagkgekpfgepoaaDoorPf06
import Derived.Lib.Join
import Derived.Lib.LaidTab
import Derived.Shelf.Strings.OnBuilder
import Derived.Shelf.Strings.Split
import Derived.Shelf.Strconv.AtoiAll
import Derived.Shelf.Strconv.Itoa3
import Derived.Test.YtagkgekpfgepoaaDoorChecked
import Derived.KernelRfl
import Derived.Test.YtagkgekpfgepoaaDoorPf08
import Derived.Test.YtagkgekpfgepoaaDoorPf05
import Derived.Test.YtagkgekpfgepoaaDoorRows
import Derived.Shelf.Vars
import Derived.Test.YtagkgekpfgepoaaDoorTie
import Derived.Test.YtagkgekpfgepoaaDoorCards
import Derived.ProofKit
import Derived.OpenShut
import Derived.Deep.DeepHandedRow
namespace Go.Proofs.YtagkgekpfgepoaaDoor
set_option linter.unusedVariables false
set_option linter.unusedSimpArgs false
open Go Go.RowKit Go.Shelf
section
variable {P : Program} {ρ : Ren} {Gl : List (Nat × Nat × Option Value)}
theorem Below.drewN {w : World} {B n : Nat} : Below B w (w.drewN n) := ⟨rfl, rfl, rfl, Nat.le_refl _, fun _ _ => rfl⟩
theorem strs_rel {V : Vw} {w : World} {b : Nat} : ∀ {es : List (List DVal)} {xs : List (List UInt8)} {off : Nat}, RowsRel V w 2 b 1 off es → strsOf es = some xs →
    xs.length = es.length ∧ ∀ (j : Nat) (x : List UInt8), xs[j]? = some x → V.imm b (off + j) ∧ w.cell? ⟨b, off + j, none⟩ = some (.string ⟨x.toArray⟩)
  | [], xs, off, h, hs => by
    simp only [strsOf, Option.some.injEq] at hs
    subst hs
    exact ⟨rfl, fun j x hx => by simp at hx⟩
  | e :: es, xs, off, h, hs => by
    unfold strsOf at hs
    split at hs
    · rename_i he; cases he
    · rename_i s es' he
      simp only [List.cons.injEq] at he
      obtain ⟨rfl, rfl⟩ := he
      simp only [Option.map_eq_some_iff] at hs
      obtain ⟨ys, hy, rfl⟩ := hs
      simp only [RowsRel, RowRel] at h
      obtain ⟨-, ⟨h1, ⟨v, h2, -, h3⟩, -⟩, h4⟩ := h
      simp only [VRel] at h3
      subst h3
      obtain ⟨g1, g2⟩ := strs_rel h4 hy
      refine ⟨by simp [g1], fun j x hx => ?_⟩
      cases j with
      | zero => simp only [List.getElem?_cons_zero, Option.some.injEq] at hx; subst hx; exact ⟨h1, h2⟩
      | succ j => rw [List.getElem?_cons_succ] at hx; have := g2 j x hx; rwa [show off + 1 + j = off + (j + 1) by omega] at this
    · cases hs
theorem prim_join (L : Lays.n156 P ρ) (X : Builder.Extra P ρ) : PureOk P Gl (ρ.f 156) joinSem := by
  intro I w ds vs r hI hG hv hs
  have hcall : callable P (ρ.f 156) := ⟨_, L.f156, rfl, rfl⟩
  unfold joinSem at hs
  split at hs
  · rename_i own es sep
    obtain ⟨v, u, rfl, h1, h2⟩ := hv.two
    simp only [VRel] at h1 h2
    subst h2
    obtain ⟨-, b, off, cap, rfl, h3, -, h4⟩ := h1
    simp only [Option.bind_eq_some_iff] at hs
    obtain ⟨xs, hx, hs⟩ := hs
    split at hs
    · rename_i hlen
      simp only [Option.some.injEq] at hs
      subst hs
      obtain ⟨g1, g2⟩ := strs_rel h4 hx
      refine ⟨hcall, ?_⟩
      cases hxs : xs with
      | nil =>
        subst hxs
        have he : es.length = 0 := by simpa using g1.symm
        rw [he]
        refine (Any.strings_Join_none L X _ cap ⟨sep.toArray⟩ w).mono ?_
        rintro e w' ⟨rfl, rfl⟩
        exact ⟨_, rfl, Below.refl _ _, by simp [HRel, VRel, Lib.join_nil]⟩
      | cons x0 xs' =>
        have hb : b < w.heap.size := by
          have := (g2 0 x0 (by rw [hxs]; rfl)).1
          exact (VI_imm.1 this).1
        have := Any.strings_Join L X b off cap (xs.map fun x => (⟨x.toArray⟩ : ByteArray)) ⟨sep.toArray⟩ w (fun j x hj => by
          rw [List.getElem?_map, Option.map_eq_some_iff] at hj
          obtain ⟨y, hy, rfl⟩ := hj
          exact (g2 j y hy).2) hb (by simpa using hlen.1) (by simp; omega) (by simpa [Function.comp_def] using hlen.2)
        rw [List.length_map, g1] at this
        refine this.mono ?_
        rintro e w' ⟨rfl, hbel⟩
        refine ⟨_, rfl, hbel, ?_⟩
        simp [HRel, VRel, Function.comp_def, hxs]
    · cases hs
  · rename_i sep
    obtain ⟨v, u, rfl, h1, h2⟩ := hv.two
    simp only [VRel] at h1 h2
    subst h1 h2
    simp only [Option.some.injEq] at hs
    subst hs
    refine ⟨hcall, (Any.strings_Join_none L X none 0 ⟨sep.toArray⟩ w).mono ?_⟩
    rintro e w' ⟨rfl, rfl⟩
    exact ⟨_, rfl, Below.refl _ _, by simp [HRel, VRel]⟩
  · cases hs
theorem Below.alloc' {w : World} {o : Obj} : Below w.heap.size w (w.alloc o) := ⟨rfl, rfl, rfl, by simp, fun b hb => heap_push_old w o hb⟩
theorem strs_rows {V : Vw} {w : World} {b : Nat} : ∀ {xs : List (List UInt8)} {off : Nat}, (∀ (j : Nat) (x : List UInt8), xs[j]? = some x → V.imm b (off + j) ∧ w.cell? ⟨b, off + j, none⟩ = some (.string ⟨x.toArray⟩)) →
    RowsRel V w 2 b 1 off (xs.map fun x => [DVal.str x])
  | [], off, h => by simp only [List.map_nil, RowsRel]
  | x :: xs, off, h => by
    simp only [List.map_cons, RowsRel, RowRel, and_true]
    obtain ⟨h1, h2⟩ := h 0 x rfl
    refine ⟨rfl, ⟨h1, _, h2, rfl, by simp only [VRel]⟩, strs_rows fun j y hy => ?_⟩
    have := h (j + 1) y (by simpa using hy)
    rwa [show off + 1 + j = off + (j + 1) by omega]
theorem prim_split (L : Lays.n221 P ρ) (hi9 : (P.info? (ρ.t 9)).map (fun i => (i.zero, i.size, i.bytes)) = some (some (.string ByteArray.empty), 1, 16)) (m : Int) (hm : (ρ.g 1, 0, some (Value.int .i64 m)) ∈ Gl) : PureOk P Gl (ρ.f 221) genSplitSem := by
  intro I w ds vs r hI hG hv hs
  have hcall : callable P (ρ.f 221) := ⟨_, L.f221, rfl, rfl⟩
  unfold genSplitSem at hs
  split at hs
  · rename_i s sep
    simp only [VRels] at hv
    obtain ⟨v1, _, rfl, h1, v2, _, rfl, h2, v3, _, rfl, h3, v4, _, rfl, h4, rfl⟩ := hv
    simp only [VRel] at h1 h2 h3 h4
    subst h1 h2 h3 h4
    split at hs
    · rename_i hlen
      simp only [Option.some.injEq] at hs
      subst hs
      refine ⟨hcall, ?_⟩
      have hcnt : Lib.countB ⟨s.toArray⟩ ⟨sep.toArray⟩ = Lib.count s sep := rfl
      refine (Any.strings_genSplit L hi9 ⟨s.toArray⟩ ⟨sep.toArray⟩ 0 (-1) (min (Lib.count s sep + 1) (s.length + 1)) m w (by simpa [ByteArray.size] using hlen.1) (hG _ hm).2 (by simpa [ByteArray.size] using hlen.2) (Nat.zero_le _) (by omega) (by omega)
        (by rw [hcnt]; simp [ByteArray.size]; omega)).mono ?_
      rintro e w' ⟨rfl, rfl⟩
      have hdata := Lib.splitB_data ⟨sep.toArray⟩ 0 (min (Lib.count s sep + 1) (s.length + 1) - 1) ⟨s.toArray⟩
      generalize hB : Lib.splitB ⟨sep.toArray⟩ 0 (min (Lib.count s sep + 1) (s.length + 1) - 1) ⟨s.toArray⟩ = B at hdata
      have hN : B.length ≤ min (Lib.count s sep + 1) (s.length + 1) := by
        have := Lib.splitB_length_le ⟨sep.toArray⟩ 0 (min (Lib.count s sep + 1) (s.length + 1) - 1) ⟨s.toArray⟩
        rw [hB] at this
        omega
      have hS : Lib.splitN s sep (Lib.count s sep + 1) = B.map (·.data.toList) := by unfold Lib.splitN; rw [hdata]
      rw [hS]
      refine ⟨_, rfl, Below.alloc', ?_⟩
      unfold HRel
      simp only [VRel, List.length_map]
      refine ⟨.inr ⟨trivial, by omega⟩, _, _, _, rfl, hN, ⟨by omega, fun e => by omega, fun e => by omega⟩, strs_rows fun j x hx => ?_⟩
      rw [List.getElem?_map, Option.map_eq_some_iff] at hx
      obtain ⟨y, hy, rfl⟩ := hx
      refine ⟨VI_imm.2 ⟨by simp, .inr ⟨Nat.le_refl _, by simp, fun e => by simp at e⟩⟩, ?_⟩
      rw [cell_of_row _ _ _ _ _ (0, 0) (heap_alloc_new w _)]
      have hj : j < B.length := (List.getElem?_eq_some_iff.1 hy).1
      simp only [Nat.zero_add, Lib.cellsOf, List.getElem?_toArray]
      rw [List.getElem?_append_left (by simpa using hj), List.getElem?_map, hy]
      rfl
    · cases hs
  · cases hs
theorem prim_atoi (L : LaysC.n172 P ρ) (e1 e2 : Value) (h1 : (ρ.g 15, 0, some e1) ∈ Gl) (h2 : (ρ.g 16, 0, some e2) ∈ Gl) (i1 : e1 = .nilIface ∨ ∃ t p, e1 = .iface t p) (i2 : e2 = .nilIface ∨ ∃ t p, e2 = .iface t p) : PureOk P Gl (ρ.f 172) atoiSem := by
  intro I w ds vs r hI hG hv hs
  have hcall : callable P (ρ.f 172) := ⟨_, L.f172, rfl, rfl⟩
  unfold atoiSem at hs
  split at hs
  · rename_i s
    simp only [VRels] at hv
    obtain ⟨v1, _, rfl, g1, rfl⟩ := hv
    simp only [VRel] at g1
    subst g1
    split at hs
    · rename_i hlen
      simp only [Option.some.injEq] at hs
      subst hs
      refine ⟨hcall, ?_⟩
      have hsz : (⟨s.toArray⟩ : ByteArray).size = s.length := by simp [ByteArray.size]
      cases hr : Lib.atoiAll s with
      | ok v =>
        refine (Any.strconv_Atoi_ok L ⟨s.toArray⟩ (by omega) v (by simpa using hr) w).mono ?_
        rintro e w' ⟨rfl, hw⟩
        refine ⟨_, rfl, ?_, ?_⟩
        · rcases hw with rfl | ⟨t, rfl⟩
          · exact Below.refl _ _
          · exact Lib.bytesWorld_below _ _ _
        · simp [HRel, VRel, VRels]
      | range =>
        refine (Any.strconv_Atoi_range L ⟨s.toArray⟩ (by omega) (by simpa using hr) e2 w (hG _ h2).2 i2).mono ?_
        rintro e w' ⟨N, rfl, -, -, hb⟩
        exact ⟨_, rfl, hb, by simp only [HRel, VRel, VRels]; exact ⟨_, rfl, _, _, rfl, rfl, _, _, rfl, ⟨_, _, rfl⟩, rfl⟩⟩
      | _ =>
        refine (Any.strconv_Atoi_syntax L ⟨s.toArray⟩ (by omega) (by simpa using hr) e1 w (hG _ h1).2 i1).mono ?_
        rintro e w' ⟨N, rfl, -, -, hb⟩
        exact ⟨_, rfl, hb, by simp only [HRel, VRel, VRels]; exact ⟨_, rfl, _, _, rfl, rfl, _, _, rfl, ⟨_, _, rfl⟩, rfl⟩⟩
    · cases hs
  · cases hs
theorem tab_of {w : World} {g : Nat} {k : IntKind} {zs : List Int} {name : String} (hg : P.globalNamed name = some g) (hc : ∀ i z, zs[i]? = some z → w.cell? ⟨g, i, none⟩ = some (.int k z)) (he : w.cell? ⟨g, zs.length, none⟩ = none) (hne : zs ≠ []) : Lib.TabIs P w name k zs := by
  unfold Lib.TabIs World.var?
  rw [hg, Option.bind_some]
  have h0 := hc 0 (zs.head hne) (by cases zs with | nil => exact absurd rfl hne | cons a l => rfl)
  unfold World.cell? at h0 hc he
  simp only at h0 hc he
  split at h0
  · rename_i cs t fz hh
    rw [hh] at he ⊢
    simp only
    congr 1
    apply Array.ext_getElem?
    intro i
    simp only [List.getElem?_toArray, List.getElem?_map]
    simp only [hh] at hc
    cases hz : zs[i]? with
    | some z => exact hc i z hz
    | none =>
      have h1 : zs.length ≤ i := List.getElem?_eq_none_iff.1 hz
      have h2 : cs.size ≤ zs.length := by simpa [Array.getElem?_eq_none_iff] using he
      simp only [Option.map_none]
      exact Array.getElem?_eq_none (by omega)
  · cases h0
theorem prim_fmt (L : LaysM.n246 P ρ) (hc : ∀ i z, Lib.pow10Tab[i]? = some z → (ρ.g 17, i, some (Value.int .u64 z)) ∈ Gl) (he : (ρ.g 17, Lib.pow10Tab.length, none) ∈ Gl) : PureOk P Gl (ρ.f 246) fmtIntSem := by
  intro I w ds vs r hI hG hv hs
  have hcall : callable P (ρ.f 246) := ⟨_, L.f246, rfl, rfl⟩
  unfold fmtIntSem at hs
  split at hs
  · rename_i n
    simp only [VRels] at hv
    obtain ⟨v1, _, rfl, g1, v2, _, rfl, g2, rfl⟩ := hv
    simp only [VRel] at g1 g2
    subst g1 g2
    split at hs
    · rename_i hb
      simp only [Option.some.injEq] at hs
      subst hs
      refine ⟨hcall, ?_⟩
      have htab : Lib.TabIs P w "internal/strconv.uint64pow10" .u64 Lib.pow10Tab := tab_of L.m17 (fun i z hz => (hG _ (hc i z hz)).2) (hG _ he).2 (by decide)
      refine (Any.internal_strconv_FormatInt_10 L n hb.1 hb.2 w htab).mono ?_
      rintro e w' ⟨rfl, k, os, rfl⟩
      refine ⟨_, rfl, ?_, by simp [HRel, VRel]⟩
      exact ⟨rfl, rfl, rfl, by simp [Go.Sort.grow, World.drewN], fun b hb => by simp [Go.Sort.grow, World.drewN, Array.getElem?_append_left hb]⟩
    · cases hs
  · cases hs
end
end Go.Proofs.YtagkgekpfgepoaaDoor
namespace Go.Proofs.YtagkgekpfgepoaaDoor
set_option linter.unusedVariables false
set_option maxRecDepth 100000
open Go Go.Shelf
def ren156 : Go.Shelf.Ren := ⟨fun | 156 => 51 | 165 => 58 | 166 => 59 | 169 => 60 | 240 => 67 | 241 => 68 | 276 => 82 | 277 => 83 | n => n, fun | 31 => 30 | 9 => 9 | 3 => 3 | 4 => 4 | 0 => 0 | 20 => 20 | 72 => 94 | 76 => 86 | 70 => 91 | 37 => 92 | 75 => 85 | 127 => 100 | 164 => 117 | 5 => 5 | 80 => 95 | n => n, fun n => n⟩
theorem lays156 : Lays.n156 Tryd.prog ren156 where
  mixed := by kernel_rfl
  f156 := Tryd.func51.trans (congrArg some (by kernel_rfl))
  f165 := Tryd.func58.trans (congrArg some (by kernel_rfl))
  f166 := Tryd.func59.trans (congrArg some (by kernel_rfl))
  f169 := Tryd.func60.trans (congrArg some (by kernel_rfl))
  f240 := Tryd.func67.trans (congrArg some (by kernel_rfl))
  f241 := Tryd.func68.trans (congrArg some (by kernel_rfl))
  f276 := Tryd.func82.trans (congrArg some (by kernel_rfl))
  f277 := Tryd.func83.trans (congrArg some (by kernel_rfl))
  t0 := Tryd.underlying0
  a0 := Tryd.isAgg0
  z0 := Tryd.sizeOf0
  v0 := Tryd.zeroValue0
  t3 := Tryd.underlying3
  a3 := Tryd.isAgg3
  z3 := Tryd.sizeOf3
  v3 := Tryd.zeroValue3
  t4 := Tryd.underlying4
  a4 := Tryd.isAgg4
  z4 := Tryd.sizeOf4
  v4 := Tryd.zeroValue4
  t9 := Tryd.underlying9
  a9 := Tryd.isAgg9
  z9 := Tryd.sizeOf9
  v9 := Tryd.zeroValue9
  t20 := Tryd.underlying20
  a20 := Tryd.isAgg20
  z20 := Tryd.sizeOf20
  v20 := Tryd.zeroValue20
  t31 := Tryd.underlying30
  a31 := Tryd.isAgg30
  z31 := Tryd.sizeOf30
  v31 := Tryd.zeroValue30
  t37 := Tryd.underlying92
  a37 := Tryd.isAgg92
  z37 := Tryd.sizeOf92
  v37 := Tryd.zeroValue92
  t70 := Tryd.underlying91
  a70 := Tryd.isAgg91
  z70 := Tryd.sizeOf91
  v70 := Tryd.zeroValue91
  t72 := Tryd.underlying94
  a72 := Tryd.isAgg94
  z72 := Tryd.sizeOf94
  v72 := Tryd.zeroValue94
  t75 := Tryd.underlying85
  a75 := Tryd.isAgg85
  z75 := Tryd.sizeOf85
  v75 := Tryd.zeroValue85
  t76 := Tryd.underlying86
  a76 := Tryd.isAgg86
  z76 := Tryd.sizeOf86
  v76 := Tryd.zeroValue86
  t127 := Tryd.underlying100
  a127 := Tryd.isAgg100
  z127 := Tryd.sizeOf100
  v127 := Tryd.zeroValue100
  t164 := Tryd.underlying117
  a164 := Tryd.isAgg117
  z164 := Tryd.sizeOf117
  v164 := Tryd.zeroValue117
def ren221 : Go.Shelf.Ren := ⟨fun | 221 => 53 | 268 => 63 | 138 => 64 | 143 => 65 | 195 => 74 | 197 => 75 | 218 => 76 | 219 => 77 | 260 => 87 | 217 => 88 | 225 => 89 | 224 => 90 | 267 => 91 | 266 => 99 | 314 => 100 | n => n, fun | 9 => 9 | 3 => 3 | 31 => 30 | 4 => 4 | 0 => 0 | 105 => 108 | 21 => 21 | 5 => 5 | 46 => 122 | 119 => 137 | 139 => 140 | 138 => 139 | 146 => 141 | 51 => 129 | n => n, fun | 1 => 2 | 3 => 4 | 4 => 5 | n => n⟩
theorem lays221 : Lays.n221 Tryd.prog ren221 where
  mixed := by kernel_rfl
  f138 := Tryd.func64.trans (congrArg some (by kernel_rfl))
  f143 := Tryd.func65.trans (congrArg some (by kernel_rfl))
  f195 := Tryd.func74.trans (congrArg some (by kernel_rfl))
  f197 := Tryd.func75.trans (congrArg some (by kernel_rfl))
  f217 := Tryd.func88.trans (congrArg some (by kernel_rfl))
  f218 := Tryd.func76.trans (congrArg some (by kernel_rfl))
  f219 := Tryd.func77.trans (congrArg some (by kernel_rfl))
  f221 := Tryd.func53.trans (congrArg some (by kernel_rfl))
  f224 := Tryd.func90.trans (congrArg some (by kernel_rfl))
  f225 := Tryd.func89.trans (congrArg some (by kernel_rfl))
  f260 := Tryd.func87.trans (congrArg some (by kernel_rfl))
  f266 := Tryd.func99.trans (congrArg some (by kernel_rfl))
  f267 := Tryd.func91.trans (congrArg some (by kernel_rfl))
  f268 := Tryd.func63.trans (congrArg some (by kernel_rfl))
  f314 := Tryd.func100.trans (congrArg some (by kernel_rfl))
  t0 := Tryd.underlying0
  a0 := Tryd.isAgg0
  z0 := Tryd.sizeOf0
  v0 := Tryd.zeroValue0
  t3 := Tryd.underlying3
  a3 := Tryd.isAgg3
  z3 := Tryd.sizeOf3
  v3 := Tryd.zeroValue3
  t4 := Tryd.underlying4
  a4 := Tryd.isAgg4
  z4 := Tryd.sizeOf4
  v4 := Tryd.zeroValue4
  t5 := Tryd.underlying5
  a5 := Tryd.isAgg5
  z5 := Tryd.sizeOf5
  v5 := Tryd.zeroValue5
  t9 := Tryd.underlying9
  a9 := Tryd.isAgg9
  z9 := Tryd.sizeOf9
  v9 := Tryd.zeroValue9
  t21 := Tryd.underlying21
  a21 := Tryd.isAgg21
  z21 := Tryd.sizeOf21
  v21 := Tryd.zeroValue21
  t31 := Tryd.underlying30
  a31 := Tryd.isAgg30
  z31 := Tryd.sizeOf30
  v31 := Tryd.zeroValue30
  t46 := Tryd.underlying122
  a46 := Tryd.isAgg122
  z46 := Tryd.sizeOf122
  v46 := Tryd.zeroValue122
  t51 := Tryd.underlying129
  a51 := Tryd.isAgg129
  z51 := Tryd.sizeOf129
  v51 := Tryd.zeroValue129
  t105 := Tryd.underlying108
  a105 := Tryd.isAgg108
  z105 := Tryd.sizeOf108
  v105 := Tryd.zeroValue108
  t119 := Tryd.underlying137
  a119 := Tryd.isAgg137
  z119 := Tryd.sizeOf137
  t138 := Tryd.underlying139
  a138 := Tryd.isAgg139
  z138 := Tryd.sizeOf139
  v138 := Tryd.zeroValue139
  t139 := Tryd.underlying140
  a139 := Tryd.isAgg140
  z139 := Tryd.sizeOf140
  v139 := Tryd.zeroValue140
  t146 := Tryd.underlying141
  a146 := Tryd.isAgg141
  z146 := Tryd.sizeOf141
  v146 := Tryd.zeroValue141
  g1 := by kernel_rfl
  g3 := by kernel_rfl
  g4 := by kernel_rfl
def ren172 : Go.Shelf.Ren := ⟨fun | 172 => 52 | 244 => 61 | 245 => 62 | 247 => 69 | 279 => 70 | 280 => 71 | 281 => 72 | 282 => 73 | 287 => 84 | 316 => 85 | 171 => 50 | 205 => 86 | 321 => 97 | 322 => 98 | 243 => 57 | 246 => 66 | 283 => 78 | 284 => 79 | 285 => 80 | 286 => 81 | 129 => 93 | 317 => 92 | 318 => 94 | 319 => 95 | 320 => 96 | 337 => 101 | 338 => 102 | n => n, fun | 9 => 9 | 3 => 3 | 75 => 85 | 76 => 86 | 4 => 4 | 5 => 5 | 167 => 101 | 37 => 92 | 0 => 0 | 85 => 102 | 2 => 2 | 168 => 104 | 53 => 112 | 175 => 120 | 46 => 122 | 210 => 125 | 127 => 100 | 145 => 136 | 143 => 134 | 21 => 21 | 171 => 111 | 173 => 115 | 212 => 128 | 51 => 129 | 20 => 20 | 213 => 130 | 232 => 144 | 233 => 145 | 80 => 95 | n => n, fun | 15 => 0 | 16 => 1 | 17 => 3 | 18 => 6 | 19 => 7 | n => n⟩
theorem lays172 : LaysC.n172 Tryd.prog ren172 where
  mixed := by kernel_rfl
  f129 := Tryd.func93.trans (congrArg some (by kernel_rfl))
  f171 := Tryd.func50.trans (congrArg some (by kernel_rfl))
  f172 := Tryd.func52.trans (congrArg some (by kernel_rfl))
  f205 := Tryd.func86.trans (congrArg some (by kernel_rfl))
  f243 := Tryd.func57.trans (congrArg some (by kernel_rfl))
  f244 := Tryd.func61.trans (congrArg some (by kernel_rfl))
  f245 := Tryd.func62.trans (congrArg some (by kernel_rfl))
  f246 := Tryd.func66.trans (congrArg some (by kernel_rfl))
  f247 := Tryd.func69.trans (congrArg some (by kernel_rfl))
  f279 := Tryd.func70.trans (congrArg some (by kernel_rfl))
  f280 := Tryd.func71.trans (congrArg some (by kernel_rfl))
  f281 := Tryd.func72.trans (congrArg some (by kernel_rfl))
  f282 := Tryd.func73.trans (congrArg some (by kernel_rfl))
  f283 := Tryd.func78.trans (congrArg some (by kernel_rfl))
  f284 := Tryd.func79.trans (congrArg some (by kernel_rfl))
  f285 := Tryd.func80.trans (congrArg some (by kernel_rfl))
  f286 := Tryd.func81.trans (congrArg some (by kernel_rfl))
  f287 := Tryd.func84.trans (congrArg some (by kernel_rfl))
  f316 := Tryd.func85.trans (congrArg some (by kernel_rfl))
  f317 := Tryd.func92.trans (congrArg some (by kernel_rfl))
  f318 := Tryd.func94.trans (congrArg some (by kernel_rfl))
  f319 := Tryd.func95.trans (congrArg some (by kernel_rfl))
  f320 := Tryd.func96.trans (congrArg some (by kernel_rfl))
  f321 := Tryd.func97.trans (congrArg some (by kernel_rfl))
  f322 := Tryd.func98.trans (congrArg some (by kernel_rfl))
  f337 := Tryd.func101.trans (congrArg some (by kernel_rfl))
  f338 := Tryd.func102.trans (congrArg some (by kernel_rfl))
  t0 := Tryd.underlying0
  a0 := Tryd.isAgg0
  z0 := Tryd.sizeOf0
  v0 := Tryd.zeroValue0
  t2 := Tryd.underlying2
  a2 := Tryd.isAgg2
  z2 := Tryd.sizeOf2
  v2 := Tryd.zeroValue2
  t3 := Tryd.underlying3
  a3 := Tryd.isAgg3
  z3 := Tryd.sizeOf3
  v3 := Tryd.zeroValue3
  t4 := Tryd.underlying4
  a4 := Tryd.isAgg4
  z4 := Tryd.sizeOf4
  v4 := Tryd.zeroValue4
  t5 := Tryd.underlying5
  a5 := Tryd.isAgg5
  z5 := Tryd.sizeOf5
  v5 := Tryd.zeroValue5
  t9 := Tryd.underlying9
  a9 := Tryd.isAgg9
  z9 := Tryd.sizeOf9
  v9 := Tryd.zeroValue9
  t20 := Tryd.underlying20
  a20 := Tryd.isAgg20
  z20 := Tryd.sizeOf20
  v20 := Tryd.zeroValue20
  t21 := Tryd.underlying21
  a21 := Tryd.isAgg21
  z21 := Tryd.sizeOf21
  v21 := Tryd.zeroValue21
  t37 := Tryd.underlying92
  a37 := Tryd.isAgg92
  z37 := Tryd.sizeOf92
  v37 := Tryd.zeroValue92
  t46 := Tryd.underlying122
  a46 := Tryd.isAgg122
  z46 := Tryd.sizeOf122
  v46 := Tryd.zeroValue122
  t51 := Tryd.underlying129
  a51 := Tryd.isAgg129
  z51 := Tryd.sizeOf129
  v51 := Tryd.zeroValue129
  t53 := Tryd.underlying112
  a53 := Tryd.isAgg112
  z53 := Tryd.sizeOf112
  v53 := Tryd.zeroValue112
  t75 := Tryd.underlying85
  a75 := Tryd.isAgg85
  z75 := Tryd.sizeOf85
  v75 := Tryd.zeroValue85
  t76 := Tryd.underlying86
  a76 := Tryd.isAgg86
  z76 := Tryd.sizeOf86
  v76 := Tryd.zeroValue86
  t85 := Tryd.underlying102
  a85 := Tryd.isAgg102
  z85 := Tryd.sizeOf102
  v85 := Tryd.zeroValue102
  t127 := Tryd.underlying100
  a127 := Tryd.isAgg100
  z127 := Tryd.sizeOf100
  v127 := Tryd.zeroValue100
  t143 := Tryd.underlying134
  a143 := Tryd.isAgg134
  z143 := Tryd.sizeOf134
  v143 := Tryd.zeroValue134
  t145 := Tryd.underlying136
  a145 := Tryd.isAgg136
  z145 := Tryd.sizeOf136
  v145 := Tryd.zeroValue136
  t167 := Tryd.underlying101
  a167 := Tryd.isAgg101
  z167 := Tryd.sizeOf101
  v167 := Tryd.zeroValue101
  t168 := Tryd.underlying104
  a168 := Tryd.isAgg104
  z168 := Tryd.sizeOf104
  v168 := Tryd.zeroValue104
  t171 := Tryd.underlying111
  a171 := Tryd.isAgg111
  z171 := Tryd.sizeOf111
  v171 := Tryd.zeroValue111
  t173 := Tryd.underlying115
  a173 := Tryd.isAgg115
  z173 := Tryd.sizeOf115
  v173 := Tryd.zeroValue115
  t175 := Tryd.underlying120
  a175 := Tryd.isAgg120
  z175 := Tryd.sizeOf120
  v175 := Tryd.zeroValue120
  t210 := Tryd.underlying125
  a210 := Tryd.isAgg125
  z210 := Tryd.sizeOf125
  v210 := Tryd.zeroValue125
  t212 := Tryd.underlying128
  a212 := Tryd.isAgg128
  z212 := Tryd.sizeOf128
  v212 := Tryd.zeroValue128
  t213 := Tryd.underlying130
  a213 := Tryd.isAgg130
  z213 := Tryd.sizeOf130
  t232 := Tryd.underlying144
  a232 := Tryd.isAgg144
  z232 := Tryd.sizeOf144
  v232 := Tryd.zeroValue144
  t233 := Tryd.underlying145
  a233 := Tryd.isAgg145
  z233 := Tryd.sizeOf145
  v233 := Tryd.zeroValue145
  g15 := by kernel_rfl
  g16 := by kernel_rfl
  g17 := by kernel_rfl
  g18 := by kernel_rfl
  g19 := by kernel_rfl
  t80 := Tryd.underlying95
  a80 := Tryd.isAgg95
  z80 := Tryd.sizeOf95
  v80 := Tryd.zeroValue95
  i0 := by kernel_rfl
  i2 := by kernel_rfl
  i3 := by kernel_rfl
  i4 := by kernel_rfl
  i5 := by kernel_rfl
  i9 := by kernel_rfl
  i20 := by kernel_rfl
  i21 := by kernel_rfl
  i37 := by kernel_rfl
  i46 := by kernel_rfl
  i51 := by kernel_rfl
  i53 := by kernel_rfl
  i75 := by kernel_rfl
  i76 := by kernel_rfl
  i80 := by kernel_rfl
  i85 := by kernel_rfl
  i127 := by kernel_rfl
  i143 := by kernel_rfl
  i145 := by kernel_rfl
  i167 := by kernel_rfl
  i168 := by kernel_rfl
  i171 := by kernel_rfl
  i173 := by kernel_rfl
  i175 := by kernel_rfl
  i210 := by kernel_rfl
  i212 := by kernel_rfl
  i232 := by kernel_rfl
  i233 := by kernel_rfl
  m15 := by kernel_rfl
  m16 := by kernel_rfl
  m17 := by kernel_rfl
  m18 := by kernel_rfl
  m19 := by kernel_rfl
  c0 := by kernel_rfl
  c2 := by kernel_rfl
  c3 := by kernel_rfl
  c4 := by kernel_rfl
  c5 := by kernel_rfl
  c9 := by kernel_rfl
  c20 := by kernel_rfl
  c21 := by kernel_rfl
  c37 := by kernel_rfl
  c46 := by kernel_rfl
  c51 := by kernel_rfl
  c53 := by kernel_rfl
  c75 := by kernel_rfl
  c76 := by kernel_rfl
  c80 := by kernel_rfl
  c85 := by kernel_rfl
  c127 := by kernel_rfl
  c143 := by kernel_rfl
  c145 := by kernel_rfl
  c167 := by kernel_rfl
  c168 := by kernel_rfl
  c171 := by kernel_rfl
  c173 := by kernel_rfl
  c175 := by kernel_rfl
  c210 := by kernel_rfl
  c212 := by kernel_rfl
  c213 := by kernel_rfl
  c232 := by kernel_rfl
  c233 := by kernel_rfl
def ren246 : Go.Shelf.Ren := ⟨fun | 246 => 66 | 283 => 78 | 284 => 79 | 285 => 80 | 286 => 81 | 129 => 93 | 317 => 92 | 318 => 94 | 319 => 95 | 320 => 96 | 337 => 101 | 338 => 102 | n => n, fun | 2 => 2 | 3 => 3 | 9 => 9 | 4 => 4 | 171 => 111 | 0 => 0 | 53 => 112 | 37 => 92 | 5 => 5 | 173 => 115 | 212 => 128 | 51 => 129 | 20 => 20 | 213 => 130 | 46 => 122 | 232 => 144 | 233 => 145 | n => n, fun | 17 => 3 | 18 => 6 | 19 => 7 | n => n⟩
theorem lays246 : LaysM.n246 Tryd.prog ren246 where
  mixed := by kernel_rfl
  f129 := Tryd.func93.trans (congrArg some (by kernel_rfl))
  f246 := Tryd.func66.trans (congrArg some (by kernel_rfl))
  f283 := Tryd.func78.trans (congrArg some (by kernel_rfl))
  f284 := Tryd.func79.trans (congrArg some (by kernel_rfl))
  f285 := Tryd.func80.trans (congrArg some (by kernel_rfl))
  f286 := Tryd.func81.trans (congrArg some (by kernel_rfl))
  f317 := Tryd.func92.trans (congrArg some (by kernel_rfl))
  f318 := Tryd.func94.trans (congrArg some (by kernel_rfl))
  f319 := Tryd.func95.trans (congrArg some (by kernel_rfl))
  f320 := Tryd.func96.trans (congrArg some (by kernel_rfl))
  f337 := Tryd.func101.trans (congrArg some (by kernel_rfl))
  f338 := Tryd.func102.trans (congrArg some (by kernel_rfl))
  t0 := Tryd.underlying0
  a0 := Tryd.isAgg0
  z0 := Tryd.sizeOf0
  v0 := Tryd.zeroValue0
  t2 := Tryd.underlying2
  a2 := Tryd.isAgg2
  z2 := Tryd.sizeOf2
  v2 := Tryd.zeroValue2
  t3 := Tryd.underlying3
  a3 := Tryd.isAgg3
  z3 := Tryd.sizeOf3
  v3 := Tryd.zeroValue3
  t4 := Tryd.underlying4
  a4 := Tryd.isAgg4
  z4 := Tryd.sizeOf4
  v4 := Tryd.zeroValue4
  t5 := Tryd.underlying5
  a5 := Tryd.isAgg5
  z5 := Tryd.sizeOf5
  v5 := Tryd.zeroValue5
  t9 := Tryd.underlying9
  a9 := Tryd.isAgg9
  z9 := Tryd.sizeOf9
  v9 := Tryd.zeroValue9
  t20 := Tryd.underlying20
  a20 := Tryd.isAgg20
  z20 := Tryd.sizeOf20
  v20 := Tryd.zeroValue20
  t37 := Tryd.underlying92
  a37 := Tryd.isAgg92
  z37 := Tryd.sizeOf92
  v37 := Tryd.zeroValue92
  t46 := Tryd.underlying122
  a46 := Tryd.isAgg122
  z46 := Tryd.sizeOf122
  v46 := Tryd.zeroValue122
  t51 := Tryd.underlying129
  a51 := Tryd.isAgg129
  z51 := Tryd.sizeOf129
  v51 := Tryd.zeroValue129
  t53 := Tryd.underlying112
  a53 := Tryd.isAgg112
  z53 := Tryd.sizeOf112
  v53 := Tryd.zeroValue112
  t171 := Tryd.underlying111
  a171 := Tryd.isAgg111
  z171 := Tryd.sizeOf111
  v171 := Tryd.zeroValue111
  t173 := Tryd.underlying115
  a173 := Tryd.isAgg115
  z173 := Tryd.sizeOf115
  v173 := Tryd.zeroValue115
  t212 := Tryd.underlying128
  a212 := Tryd.isAgg128
  z212 := Tryd.sizeOf128
  v212 := Tryd.zeroValue128
  t213 := Tryd.underlying130
  a213 := Tryd.isAgg130
  z213 := Tryd.sizeOf130
  t232 := Tryd.underlying144
  a232 := Tryd.isAgg144
  z232 := Tryd.sizeOf144
  v232 := Tryd.zeroValue144
  t233 := Tryd.underlying145
  a233 := Tryd.isAgg145
  z233 := Tryd.sizeOf145
  v233 := Tryd.zeroValue145
  g17 := by kernel_rfl
  g18 := by kernel_rfl
  g19 := by kernel_rfl
  i0 := by kernel_rfl
  i2 := by kernel_rfl
  i3 := by kernel_rfl
  i4 := by kernel_rfl
  i5 := by kernel_rfl
  i9 := by kernel_rfl
  i20 := by kernel_rfl
  i37 := by kernel_rfl
  i46 := by kernel_rfl
  i51 := by kernel_rfl
  i53 := by kernel_rfl
  i171 := by kernel_rfl
  i173 := by kernel_rfl
  i212 := by kernel_rfl
  i232 := by kernel_rfl
  i233 := by kernel_rfl
  m17 := by kernel_rfl
  m18 := by kernel_rfl
  m19 := by kernel_rfl
theorem extra156 : Builder.Extra Tryd.prog ren156 where
  sizeBuilder := by kernel_rfl
  liesBuilder := by kernel_rfl
  t5 := Tryd.underlying5
  a5 := Tryd.isAgg5
  z5 := Tryd.sizeOf5
  v5 := Tryd.zeroValue5
  infoByte := by kernel_rfl
  cellsByte := by kernel_rfl
  sizeByte := by kernel_rfl
  neB5 := by decide
end Go.Proofs.YtagkgekpfgepoaaDoor
namespace Go.Proofs.YtagkgekpfgepoaaDoor
set_option linter.unusedVariables false
set_option maxRecDepth 100000
open Go Go.Shelf
def globs (m : Int) (e1 e2 : Value) : List (Nat × Nat × Option Value) :=
  (2, 0, some (.int .i64 m)) :: (0, 0, some e1) :: (1, 0, some e2) :: (3, 20, none) :: (List.range 20).map fun i => (3, i, some (.int .u64 (Lib.pow10Tab.getD i 0)))
theorem pow_len : Lib.pow10Tab.length = 20 := by simp [Lib.pow10Tab]
theorem globs_pow (m : Int) (e1 e2 : Value) (i : Nat) (z : Int) (h : Lib.pow10Tab[i]? = some z) : (3, i, some (Value.int .u64 z)) ∈ globs m e1 e2 := by
  have hi := (List.getElem?_eq_some_iff.1 h).1
  rw [pow_len] at hi
  refine List.mem_cons_of_mem _ (List.mem_cons_of_mem _ (List.mem_cons_of_mem _ (List.mem_cons_of_mem _ (List.mem_map.2 ⟨i, List.mem_range.2 hi, ?_⟩))))
  rw [List.getD_eq_getElem?_getD, h]
  rfl
theorem table_ok (m : Int) (e1 e2 : Value) (i1 : e1 = .nilIface ∨ ∃ t p, e1 = .iface t p) (i2 : e2 = .nilIface ∨ ∃ t p, e2 = .iface t p) : AllJ Tryd.prog (globs m e1 e2) table :=
  ⟨prim_join lays156 extra156, prim_atoi lays172 e1 e2 (by simp [globs, ren172]) (by simp [globs, ren172]) i1 i2, prim_split lays221 (by kernel_rfl) m (by simp [globs, ren221]), prim_fmt lays246 (globs_pow m e1 e2) (by rw [pow_len]; simp [globs, ren246]), K5, K7, K8, K9, K10, K12, K13, K14, K15, K16, K17, K18, K19, K20, K21, K22, K23, K24, K25, K26, K27, K28, K29, K30, K31, K32, K33, K34, K35, K36, K37, K38, K39, K40, K41, K42, K43, K44, K45, K46, K47, K48, K49, K50, K54, K55, K56, K57, trivial⟩
theorem table_det : detJ table = true := by kernel_rfl
end Go.Proofs.YtagkgekpfgepoaaDoor
namespace Go.Proofs.YtagkgekpfgepoaaDoor
set_option linter.unusedVariables false
set_option maxRecDepth 100000
open Go
theorem iface_of_trod {H : Type} {enc : TypeId × Value → H} {P : Program} {w : World} {base : Nat} {sp : Nat → Bool} {held : Bool} {fuel : Nat} {t : TypeId} {cs : List Value} {nm : String} {d : DataW H} {p : List MemPlace}
    (ht : (match P.underlying t with | some (.interface _) => true | _ => false) = true) (h : DataW.trod enc P w base sp held fuel t cs = some (.iface nm d, p)) : ∃ u v, cs = [.iface u v] := by
  cases fuel with
  | zero => simp [DataW.trod] at h
  | succ fuel =>
    split at ht
    · rename_i i hu
      simp only [DataW.trod, hu] at h
      split at h
      all_goals first
        | exact ⟨_, _, rfl⟩
        | (simp at h; done)
        | (exfalso; injections; done)
        | (exfalso; simp_all; done)
    · cases ht
theorem cell_of_var {P : Program} {w : World} {name : String} {g : Nat} {cs : Array Value} (hg : P.globalNamed name = some g) (h : w.var? P name = some cs) (i : Nat) : w.cell? ⟨g, i, none⟩ = cs[i]? ∧ g < w.heap.size := by
  unfold World.var? at h
  rw [hg, Option.bind_some] at h
  split at h
  · rename_i c t f hh
    simp only [Option.some.injEq] at h
    subst h
    refine ⟨?_, (Array.getElem?_eq_some_iff.1 hh).1⟩
    unfold World.cell?
    simp [hh]
  · cases h
abbrev laidL : List (String × DataW Unit) := Rows.auditlogCountsRow.laid
theorem globs_has {W : World} (hsh : W.ShapedOpen Tryd.prog) (hL : laidMetH Tryd.prog laidL W) : ∃ m e1 e2, (e1 = Value.nilIface ∨ ∃ t p, e1 = .iface t p) ∧ (e2 = Value.nilIface ∨ ∃ t p, e2 = .iface t p) ∧ HasG (globs m e1 e2) (oldI W) W := by
  obtain ⟨m, hm⟩ := cell_of_shapedOpen_int (zero := #[.int .i64 0]) (g := 2) (t := 3) hsh (of_decide_eq_true (by kernel_rfl)) (by kernel_rfl) rfl (by kernel_rfl) (by kernel_rfl) Tryd.underlying3
  have hL : laidMet Tryd.prog laidL W := hL
  obtain ⟨ps, hv, -⟩ := hL
  obtain ⟨_, _, _, _, _, _, -, -, -, -, hv, -⟩ := hv
  obtain ⟨_, _, _, _, _, _, -, -, -, -, hv, -⟩ := hv
  obtain ⟨g3, t3, cs3, f3, p3, q3, hg3, ht3, hv3, hd3, hv, -⟩ := hv
  obtain ⟨_, _, _, _, _, _, -, -, -, -, hv, -⟩ := hv
  obtain ⟨g4, t4, cs4, f4, p4, q4, hg4, ht4, hv4, hd4, hv, -⟩ := hv
  obtain ⟨g5, t5, cs5, f5, p5, q5, hg5, ht5, hv5, hd5, hv, -⟩ := hv
  obtain rfl : g3 = 3 := Option.some.inj (hg3.symm.trans (by kernel_rfl))
  obtain rfl : g4 = 1 := Option.some.inj (hg4.symm.trans (by kernel_rfl))
  obtain rfl : g5 = 0 := Option.some.inj (hg5.symm.trans (by kernel_rfl))
  have hyT3 : ∃ t, (Tryd.prog.globals[3]?).map (·.type) = some t := ⟨t3, ht3⟩
  have i4 : (match Tryd.prog.underlying t4 with | some (.interface _) => true | _ => false) = true := by
    have : some t4 = (Tryd.prog.globals[1]?).map (·.type) := ht4.symm
    have e : (match (Tryd.prog.globals[1]?).map (·.type) with | some t => (match Tryd.prog.underlying t with | some (.interface _) => true | _ => false) | none => false) = true := by kernel_rfl
    rw [← this] at e
    exact e
  have i5 : (match Tryd.prog.underlying t5 with | some (.interface _) => true | _ => false) = true := by
    have : some t5 = (Tryd.prog.globals[0]?).map (·.type) := ht5.symm
    have e : (match (Tryd.prog.globals[0]?).map (·.type) with | some t => (match Tryd.prog.underlying t with | some (.interface _) => true | _ => false) | none => false) = true := by kernel_rfl
    rw [← this] at e
    exact e
  obtain ⟨u4, v4, c4⟩ := iface_of_trod i4 hd4
  obtain ⟨u5, v5, c5⟩ := iface_of_trod i5 hd5
  have tt : t3 = 128 := Option.some.inj (ht3.symm.trans (by kernel_rfl))
  subst tt
  have c3 : cs3.toList = Lib.pow10Tab.map fun z => Value.int .u64 z := Lib.cells_of_tab (e := 112) (n := 20) (k := .u64) Tryd.underlying128 Tryd.underlying112 (by kernel_rfl) (by kernel_rfl) (p := p3) (by rw [hd3]; rfl)
  have hb2 : (2 : Nat) < W.heap.size := by
    unfold World.cell? at hm
    simp only at hm
    split at hm
    · rename_i hh; exact (Array.getElem?_eq_some_iff.1 hh).1
    · cases hm
  refine ⟨m, .iface u5 v5, .iface u4 v4, .inr ⟨_, _, rfl⟩, .inr ⟨_, _, rfl⟩, ?_⟩
  intro x hx
  simp only [globs, List.mem_cons, List.mem_map, List.mem_range] at hx
  rcases hx with rfl | rfl | rfl | rfl | ⟨i, hi, rfl⟩
  · exact ⟨hb2, hm⟩
  · obtain ⟨h1, h2⟩ := cell_of_var hg5 hv5 0
    refine ⟨h2, ?_⟩
    show W.cell? ⟨0, 0, none⟩ = _
    rw [h1, ← Array.getElem?_toList, c5]
    rfl
  · obtain ⟨h1, h2⟩ := cell_of_var hg4 hv4 0
    refine ⟨h2, ?_⟩
    show W.cell? ⟨1, 0, none⟩ = _
    rw [h1, ← Array.getElem?_toList, c4]
    rfl
  · obtain ⟨h1, h2⟩ := cell_of_var hg3 hv3 20
    refine ⟨h2, ?_⟩
    show W.cell? ⟨3, 20, none⟩ = _
    rw [h1, ← Array.getElem?_toList, c3]
    rfl
  · obtain ⟨h1, h2⟩ := cell_of_var hg3 hv3 i
    refine ⟨h2, ?_⟩
    show W.cell? ⟨3, i, none⟩ = _
    have hlt : i < Lib.pow10Tab.length := by rw [pow_len]; exact hi
    rw [h1, ← Array.getElem?_toList, c3, List.getElem?_map, List.getD_eq_getElem?_getD, List.getElem?_eq_getElem hlt]
    rfl
end Go.Proofs.YtagkgekpfgepoaaDoor
namespace Go.Proofs.YtagkgekpfgepoaaDoor
set_option linter.unusedVariables false
set_option maxRecDepth 100000
open Go Go.ChangeShapes Go.WideShapes Go.ChangeAt Go.RowKit
theorem own : ownKnob Tryd.prog.godebug = none := by kernel_rfl
theorem laidOut : laidOutB Tryd.prog = true := by kernel_rfl
def argS : List TypeId := [3, 4, 5, 9, 22, 23, 24, 30, 31, 32, 33, 34]
theorem argS_plain : plainS Tryd.prog argS = true := by kernel_rfl
theorem call_true {f : Nat} {fn : Func} (hfn : Tryd.prog.funcs[f]? = some fn) (hlaw : ∀ k Ds, DTyArgs Tryd.prog k fn.params.toList Ds → ∃ n, cpJ PR n f Ds = some (.bool true))
    (hp : fn.params.toList.all argS.contains = true)
    {H : Type} {enc : TypeId × Value → H} {W : World} {base : Nat} {args : Array Value} {ds : List (DataW H)} {p : List MemPlace}
    (hval : ∀ (j : Nat) t v, fn.params[j]? = some t → args[j]? = some v → Value.okWide Tryd.prog W .any base t v)
    (hA : DataW.TrodAll enc Tryd.prog W 0 (fun _ => true) true fn.params.toList args.toList ds p) (hsh : W.ShapedOpen Tryd.prog) (hL : laidMetH Tryd.prog laidL W) :
    Calls Tryd.prog f args W fun e W' => e = .returned (.bool true) ∧ Below W.heap.size W W' := by
  obtain ⟨m, ev1, ev2, i1, i2, hG⟩ := globs_has hsh hL
  obtain ⟨k, Ds, h1, h2⟩ := args_rel (w := W) argS_plain (base := base) hp (fun j t v ht hv => hval j t v (by simpa using ht) (by simpa using hv)) hA
  obtain ⟨n, hlaw⟩ := hlaw k Ds h1
  have := ((allJ_sound (table_ok m ev1 ev2 i1 i2) table_det n).1 f (oldI W) W Ds args.toList (.bool true) (fun b k h => h) hG h2 hlaw).2
  refine (by simpa using this : Calls Tryd.prog f args W _).mono ?_
  rintro e W' ⟨v, rfl, hbel, hrel⟩
  simp only [HRel, VRel] at hrel
  exact ⟨by rw [hrel], hbel⟩
theorem contract {f : Nat} {fn : Func} {s : ChangeSpec} (hfn : Tryd.prog.funcs[f]? = some fn) (hlaw : ∀ k Ds, DTyArgs Tryd.prog k fn.params.toList Ds → ∃ n, cpJ PR n f Ds = some (.bool true))
    (hp : fn.params.toList.all argS.contains = true) (hres : fn.resultTypes = #[4]) (hvars : s.vars = [])
    (hspec : ∀ (H : Type) (ds : List (DataW H)), ds.length = fn.params.toList.length → s.fn H ds = { results := [.lit (.bool true)], args := ds, vars := [] })
    (ht : ∀ t, t ∈ fn.params.toList → Tryd.prog.readableRec t = true ∧ t < Tryd.prog.types.size)
    {H : Type} {enc : TypeId × Value → H} {W : World} {base : Nat} {args : Array Value} {ds gs : List (DataW H)} {before : List MemPlace}
    (hval : ∀ (j : Nat) t v, fn.params[j]? = some t → args[j]? = some v → Value.okWide Tryd.prog W .any base t v)
    (hW : DataW.Whole enc Tryd.prog fn.params.toList s.vars false W args.toList ds gs before) (hsh : W.ShapedOpen Tryd.prog) (hL : laidMetH Tryd.prog laidL W) :
    Calls Tryd.prog f args W fun e W' => ∃ v, e = .returned v ∧ s.post enc Tryd.prog fn false true false false W args v W' := by
  obtain ⟨p, q, hA, hV, hpq, hz, hn⟩ := id hW
  have hg : gs = [] := by
    rw [hvars] at hV
    cases gs with
    | nil => rfl
    | cons g gs => exact hV.elim
  subst hg
  have hlen : ds.length = fn.params.toList.length := by
    have : ∀ {ts : List TypeId} {vs : List Value} {ds : List (DataW H)} {p : List MemPlace}, DataW.TrodAll enc Tryd.prog W 0 (fun _ => true) true ts vs ds p → ds.length = ts.length := by
      intro ts
      induction ts with
      | nil => intro vs ds p h; cases vs <;> cases ds <;> first | rfl | exact h.elim
      | cons t ts ih =>
        intro vs ds p h
        cases vs with
        | nil => exact h.elim
        | cons v vs =>
          cases ds with
          | nil => exact h.elim
          | cons d ds => obtain ⟨p1, q1, -, h2, -⟩ := h; simp [ih h2]
    exact this hA
  refine (call_true hfn hlaw hp hval hA hsh hL).mono ?_
  rintro e W' ⟨rfl, hb⟩
  exact ⟨_, rfl, post_of_true hW hvars hres Tryd.underlying4 (by rw [List.append_nil]; exact hspec H ds hlen) laidOut ht hb⟩
def u8s (l : List Int) : Array Value := (l.map fun n => Value.int .u8 n).toArray
def withCells (c : Array Value) : Obj → Obj
  | .cells _ t frozen => .cells c t frozen
  | o => o
abbrev rangeS : ByteArray := { data := #[118, 97, 108, 117, 101, 32, 111, 117, 116, 32, 111, 102, 32, 114, 97, 110, 103, 101] }
abbrev syntaxS : ByteArray := { data := #[105, 110, 118, 97, 108, 105, 100, 32, 115, 121, 110, 116, 97, 120] }
noncomputable def low : Nat := (World.holding Tryd.prog default ⟨#[], #[], []⟩).heap.size
noncomputable def laidWorld (os : Os) : World :=
  let w0 := World.holding Tryd.prog os ⟨#[.cells #[.string rangeS] 136, .cells #[.string syntaxS] 136], #[], []⟩
  { w0 with heap := ((((((w0.heap.modify 0 (withCells #[.iface 134 (.pointer (some ⟨low + 1, 0, none⟩))])).modify 1 (withCells #[.iface 134 (.pointer (some ⟨low, 0, none⟩))])).modify 3 (withCells (Lib.pow10Tab.map fun z => Value.int .u64 z).toArray)).modify 4 (withCells (Go.Pinned.utf8FirstZ.map fun (n : Nat) => Value.int .u8 (n : Int)).toArray)).modify 5 (withCells (u8s [128, 191, 160, 191, 128, 159, 144, 191, 128, 143, 0, 0, 0, 0, 0, 0, 0, 0, 0, 0, 0, 0, 0, 0, 0, 0, 0, 0, 0, 0, 0, 0]))).modify 6 (withCells (u8s [0, 1, 28, 2, 29, 14, 24, 3, 30, 22, 20, 15, 25, 17, 4, 8, 31, 27, 13, 23, 21, 19, 16, 7, 26, 12, 18, 6, 11, 5, 10, 9]))).modify 7 (withCells (u8s [0, 1, 56, 2, 57, 49, 28, 3, 61, 58, 42, 50, 38, 29, 17, 4, 62, 47, 59, 36, 45, 43, 51, 22, 53, 39, 33, 30, 24, 18, 12, 5, 63, 55, 48, 27, 60, 41, 37, 16, 46, 35, 44, 21, 52, 32, 23, 11, 54, 26, 40, 15, 34, 20, 31, 10, 25, 14, 19, 9, 13, 8, 7, 6])) }
end Go.Proofs.YtagkgekpfgepoaaDoor
