/- Texts of this proof, part 5: see the card for what is proved. -/
import Derived.Test.YtklepphkbbjbjaaDoorPc00
import Derived.Lib.IndexMore
import Derived.Lib.Join
import Derived.Lib.Split
import Derived.Lib.IndexAny
import Derived.Lib.CountLaws
import Derived.Lib.AtoiTie
import Derived.Lib.ItoaNum
import Derived.Test.YtklepphkbbjbjaaDoorPc03
import Derived.Test.YtklepphkbbjbjaaDoorPc04
import Derived.KernelRfl
import Derived.Lib.SplitLaws
import Derived.Sort.Walk0
namespace Go.Proofs.YtklepphkbbjbjaaDoor

open Go
def indexByteSem : List DVal → Option DVal
  | [.str s, .int .u8 c] => some (.int .i64 (Lib.indexByte s c.toNat.toUInt8))
  | _ => none
def strCells : List DVal → Option (List (List UInt8))
  | [] => some []
  | .str s :: cs => (strCells cs).map (s :: ·)
  | _ => none
def sortSem : List DVal → Sto → Option (DVal × Sto)
  | [.nils], σ => some (.tup [], σ)
  | [.mslice 1 id 0 len _], σ => if id < σ.nobj then
      match σ.obj id with
      | .agg cs => match strCells cs with
        | some zs => if zs.length = len ∧ zs.length < 4611686018427387904 then some (.tup [], { σ with obj := upd σ.obj id (.agg ((zs.mergeSort fun x y => decide (x ≤ y)).map .str)) }) else none
        | none => none
      | _ => none
    else none
  | _, _ => none
def genSplitSem : List DVal → Option DVal
  | [.str s, .str sep, .int .i64 0, .int .i64 (-1)] => if s.length < 4294967281 ∧ 1 ≤ sep.length then some (.slice false 0 1 ((Lib.splitN s sep (Lib.count s sep + 1)).map fun x => [.str x])) else none
  | _ => none
def containsRuneSem : List DVal → Option DVal
  | [.str s, .int .i32 r] => if 0 ≤ r ∧ r < 128 then some (.bool (s.contains r.toNat.toUInt8)) else none
  | _ => none
end Go.Proofs.YtklepphkbbjbjaaDoor
namespace Go.Proofs.YtklepphkbbjbjaaDoor
set_option linter.unusedVariables false
open Go
def tab0 : List (Nat × JFun) := [(40, .sprim sortSem), (30, .body 1 T30), (21, .rbody 2 T21)]
def PR0 : Nat → Option JFun := progJ tab0
def rowsS (g : Int → Sto → Option (List Int × Sto)) : List (List DVal) → Sto → Option (List Int × Sto)
  | [], σ => some ([], σ)
  | [.int .i64 k] :: es, σ => (g k σ).bind fun a => (rowsS g es a.2).map fun b => (a.1 ++ b.1, b.2)
  | _, _ => none
noncomputable def walkS (t : DVal) : Nat → Int → Sto → Option (List Int × Sto)
  | 0, _, _ => none
  | n + 1, d, σ => (ciJ PR0 1000 21 [t, .int .i64 d] σ).bind fun y => match y.1 with
    | .nils => some ([d], y.2)
    | .slice false _ 1 es => if es.length ≤ 1000000 then (rowsS (walkS t n) es y.2).map fun z => (d :: z.1, z.2) else none
    | _ => none
noncomputable def listB (t : DVal) (σ : Sto) : Option (DVal × Sto) :=
  (ciJ PR0 1000 30 [t] σ).bind fun y => match y.1 with
    | .bool false => some (.nils, y.2)
    | .bool true => (walkS t 1000 1 y.2).bind fun z => if 0 < z.1.length ∧ z.1.length ≤ 1000000 then some (.slice false 0 1 (z.1.map fun i => [.int .i64 i]), z.2) else none
    | _ => none
noncomputable def listSem : List DVal → Sto → Option (DVal × Sto)
  | [.nilp], σ => listB .nilp σ
  | [.obj i off], σ => listB (.obj i off) σ
  | _, _ => none
noncomputable def copyB (t : DVal) (σ : Sto) : Option (DVal × Sto) :=
  (ciJ PR0 1000 30 [t] σ).bind fun y => match y.1 with
    | .bool false => some (.nilp, y.2)
    | .bool true => match t with
      | .obj i 0 => copyT i y.2
      | _ => none
    | _ => none
noncomputable def copySem : List DVal → Sto → Option (DVal × Sto)
  | [.nilp], σ => copyB .nilp σ
  | [.obj i off], σ => copyB (.obj i off) σ
  | _, _ => none
end Go.Proofs.YtklepphkbbjbjaaDoor
namespace Go.Proofs.YtklepphkbbjbjaaDoor
set_option linter.unusedVariables false
set_option maxRecDepth 100000
open Go
noncomputable def table : List (Nat × JFun) :=
  [(51, .prim genSplitSem), (89, .prim containsRuneSem), (58, .prim indexByteSem), (40, .sprim sortSem), (23, .sprim listSem), (27, .sprim copySem), (7, .body 2 T7), (9, .body 1 T9), (10, .body 0 T10), (11, .body 5 T11), (12, .body 2 T12), (13, .body 1 T13), (14, .body 1 T14), (15, .body 3 T15), (16, .body 2 T16), (18, .body 2 T18), (19, .body 2 T19), (20, .body 2 T20), (21, .rbody 2 T21), (22, .body 2 T22), (24, .body 2 T24), (25, .body 2 T25), (26, .body 2 T26), (28, .body 2 T28), (29, .body 3 T29), (30, .body 1 T30), (31, .body 2 T31), (32, .body 1 T32), (33, .body 2 T33), (34, .body 5 T34), (35, .body 2 T35), (36, .body 3 T36), (37, .body 2 T37), (38, .body 2 T38), (39, .body 2 T39), (42, .body 1 T42), (43, .body 2 T43), (44, .body 2 T44), (47, .body 2 T47), (48, .body 1 T48), (49, .body 1 T49), (50, .body 3 T50), (56, .body 2 T56), (59, .body 1 T59), (60, .body 2 T60), (76, .body 1 T76), (77, .body 1 T77), (88, .body 2 T88), (95, .body 2 T95), (98, .body 2 T98)]
noncomputable def PR : Nat → Option JFun := progJ table
theorem u7 (n : Nat) (x0 x1 : DVal) : cpJ PR (n + 1) 7 [x0, x1] = finP (D7 (cpJ PR n) (ciJ PR n) n x0 x1 emptySto) := by kernel_rfl
theorem v9 (n : Nat) (x0 : DVal) (σ : Sto) : ciJ PR (n + 1) 9 [x0] σ = finI (D9 (cpJ PR n) (ciJ PR n) n x0 σ) := by kernel_rfl
theorem u10 (n : Nat) : cpJ PR (n + 1) 10 [] = finP (D10 (cpJ PR n) (ciJ PR n) n  emptySto) := by kernel_rfl
theorem v11 (n : Nat) (x0 x1 x2 x3 x4 : DVal) (σ : Sto) : ciJ PR (n + 1) 11 [x0, x1, x2, x3, x4] σ = finI (D11 (cpJ PR n) (ciJ PR n) n x0 x1 x2 x3 x4 σ) := by kernel_rfl
theorem v12 (n : Nat) (x0 x1 : DVal) (σ : Sto) : ciJ PR (n + 1) 12 [x0, x1] σ = finI (D12 (cpJ PR n) (ciJ PR n) n x0 x1 σ) := by kernel_rfl
theorem v13 (n : Nat) (x0 : DVal) (σ : Sto) : ciJ PR (n + 1) 13 [x0] σ = finI (D13 (cpJ PR n) (ciJ PR n) n x0 σ) := by kernel_rfl
theorem u14 (n : Nat) (x0 : DVal) : cpJ PR (n + 1) 14 [x0] = finP (D14 (cpJ PR n) (ciJ PR n) n x0 emptySto) := by kernel_rfl
theorem v15 (n : Nat) (x0 x1 x2 : DVal) (σ : Sto) : ciJ PR (n + 1) 15 [x0, x1, x2] σ = finI (D15 (cpJ PR n) (ciJ PR n) n x0 x1 x2 σ) := by kernel_rfl
theorem v16 (n : Nat) (x0 x1 : DVal) (σ : Sto) : ciJ PR (n + 1) 16 [x0, x1] σ = finI (D16 (cpJ PR n) (ciJ PR n) n x0 x1 σ) := by kernel_rfl
theorem v18 (n : Nat) (x0 x1 : DVal) (σ : Sto) : ciJ PR (n + 1) 18 [x0, x1] σ = finI (D18 (cpJ PR n) (ciJ PR n) n x0 x1 σ) := by kernel_rfl
theorem u19 (n : Nat) (x0 x1 : DVal) : cpJ PR (n + 1) 19 [x0, x1] = finP (D19 (cpJ PR n) (ciJ PR n) n x0 x1 emptySto) := by kernel_rfl
theorem u20 (n : Nat) (x0 x1 : DVal) : cpJ PR (n + 1) 20 [x0, x1] = finP (D20 (cpJ PR n) (ciJ PR n) n x0 x1 emptySto) := by kernel_rfl
theorem v20 (n : Nat) (x0 x1 : DVal) (σ : Sto) : ciJ PR (n + 1) 20 [x0, x1] σ = finI (D20 (cpJ PR n) (ciJ PR n) n x0 x1 σ) := by kernel_rfl
theorem v21 (n : Nat) (x0 x1 : DVal) (σ : Sto) : ciJ PR (n + 1) 21 [x0, x1] σ = rdet σ fun o => outR (D21 (cpJ PR n) (ciJ PR n) n x0 x1 { σ with ora := o }) := by kernel_rfl
theorem u22 (n : Nat) (x0 x1 : DVal) : cpJ PR (n + 1) 22 [x0, x1] = finP (D22 (cpJ PR n) (ciJ PR n) n x0 x1 emptySto) := by kernel_rfl
theorem v24 (n : Nat) (x0 x1 : DVal) (σ : Sto) : ciJ PR (n + 1) 24 [x0, x1] σ = finI (D24 (cpJ PR n) (ciJ PR n) n x0 x1 σ) := by kernel_rfl
theorem v25 (n : Nat) (x0 x1 : DVal) (σ : Sto) : ciJ PR (n + 1) 25 [x0, x1] σ = finI (D25 (cpJ PR n) (ciJ PR n) n x0 x1 σ) := by kernel_rfl
theorem v26 (n : Nat) (x0 x1 : DVal) (σ : Sto) : ciJ PR (n + 1) 26 [x0, x1] σ = finI (D26 (cpJ PR n) (ciJ PR n) n x0 x1 σ) := by kernel_rfl
theorem v28 (n : Nat) (x0 x1 : DVal) (σ : Sto) : ciJ PR (n + 1) 28 [x0, x1] σ = finI (D28 (cpJ PR n) (ciJ PR n) n x0 x1 σ) := by kernel_rfl
theorem v29 (n : Nat) (x0 x1 x2 : DVal) (σ : Sto) : ciJ PR (n + 1) 29 [x0, x1, x2] σ = finI (D29 (cpJ PR n) (ciJ PR n) n x0 x1 x2 σ) := by kernel_rfl
theorem v30 (n : Nat) (x0 : DVal) (σ : Sto) : ciJ PR (n + 1) 30 [x0] σ = finI (D30 (cpJ PR n) (ciJ PR n) n x0 σ) := by kernel_rfl
theorem v31 (n : Nat) (x0 x1 : DVal) (σ : Sto) : ciJ PR (n + 1) 31 [x0, x1] σ = finI (D31 (cpJ PR n) (ciJ PR n) n x0 x1 σ) := by kernel_rfl
theorem u32 (n : Nat) (x0 : DVal) : cpJ PR (n + 1) 32 [x0] = finP (D32 (cpJ PR n) (ciJ PR n) n x0 emptySto) := by kernel_rfl
theorem v33 (n : Nat) (x0 x1 : DVal) (σ : Sto) : ciJ PR (n + 1) 33 [x0, x1] σ = finI (D33 (cpJ PR n) (ciJ PR n) n x0 x1 σ) := by kernel_rfl
theorem u34 (n : Nat) (x0 x1 x2 x3 x4 : DVal) : cpJ PR (n + 1) 34 [x0, x1, x2, x3, x4] = finP (D34 (cpJ PR n) (ciJ PR n) n x0 x1 x2 x3 x4 emptySto) := by kernel_rfl
theorem u35 (n : Nat) (x0 x1 : DVal) : cpJ PR (n + 1) 35 [x0, x1] = finP (D35 (cpJ PR n) (ciJ PR n) n x0 x1 emptySto) := by kernel_rfl
theorem u36 (n : Nat) (x0 x1 x2 : DVal) : cpJ PR (n + 1) 36 [x0, x1, x2] = finP (D36 (cpJ PR n) (ciJ PR n) n x0 x1 x2 emptySto) := by kernel_rfl
theorem u37 (n : Nat) (x0 x1 : DVal) : cpJ PR (n + 1) 37 [x0, x1] = finP (D37 (cpJ PR n) (ciJ PR n) n x0 x1 emptySto) := by kernel_rfl
theorem u38 (n : Nat) (x0 x1 : DVal) : cpJ PR (n + 1) 38 [x0, x1] = finP (D38 (cpJ PR n) (ciJ PR n) n x0 x1 emptySto) := by kernel_rfl
theorem u39 (n : Nat) (x0 x1 : DVal) : cpJ PR (n + 1) 39 [x0, x1] = finP (D39 (cpJ PR n) (ciJ PR n) n x0 x1 emptySto) := by kernel_rfl
theorem u42 (n : Nat) (x0 : DVal) : cpJ PR (n + 1) 42 [x0] = finP (D42 (cpJ PR n) (ciJ PR n) n x0 emptySto) := by kernel_rfl
theorem u43 (n : Nat) (x0 x1 : DVal) : cpJ PR (n + 1) 43 [x0, x1] = finP (D43 (cpJ PR n) (ciJ PR n) n x0 x1 emptySto) := by kernel_rfl
theorem u44 (n : Nat) (x0 x1 : DVal) : cpJ PR (n + 1) 44 [x0, x1] = finP (D44 (cpJ PR n) (ciJ PR n) n x0 x1 emptySto) := by kernel_rfl
theorem u47 (n : Nat) (x0 x1 : DVal) : cpJ PR (n + 1) 47 [x0, x1] = finP (D47 (cpJ PR n) (ciJ PR n) n x0 x1 emptySto) := by kernel_rfl
theorem u48 (n : Nat) (x0 : DVal) : cpJ PR (n + 1) 48 [x0] = finP (D48 (cpJ PR n) (ciJ PR n) n x0 emptySto) := by kernel_rfl
theorem u49 (n : Nat) (x0 : DVal) : cpJ PR (n + 1) 49 [x0] = finP (D49 (cpJ PR n) (ciJ PR n) n x0 emptySto) := by kernel_rfl
theorem u50 (n : Nat) (x0 x1 x2 : DVal) : cpJ PR (n + 1) 50 [x0, x1, x2] = finP (D50 (cpJ PR n) (ciJ PR n) n x0 x1 x2 emptySto) := by kernel_rfl
theorem u56 (n : Nat) (x0 x1 : DVal) : cpJ PR (n + 1) 56 [x0, x1] = finP (D56 (cpJ PR n) (ciJ PR n) n x0 x1 emptySto) := by kernel_rfl
theorem u59 (n : Nat) (x0 : DVal) : cpJ PR (n + 1) 59 [x0] = finP (D59 (cpJ PR n) (ciJ PR n) n x0 emptySto) := by kernel_rfl
theorem u60 (n : Nat) (x0 x1 : DVal) : cpJ PR (n + 1) 60 [x0, x1] = finP (D60 (cpJ PR n) (ciJ PR n) n x0 x1 emptySto) := by kernel_rfl
theorem u76 (n : Nat) (x0 : DVal) : cpJ PR (n + 1) 76 [x0] = finP (D76 (cpJ PR n) (ciJ PR n) n x0 emptySto) := by kernel_rfl
theorem u77 (n : Nat) (x0 : DVal) : cpJ PR (n + 1) 77 [x0] = finP (D77 (cpJ PR n) (ciJ PR n) n x0 emptySto) := by kernel_rfl
theorem u88 (n : Nat) (x0 x1 : DVal) : cpJ PR (n + 1) 88 [x0, x1] = finP (D88 (cpJ PR n) (ciJ PR n) n x0 x1 emptySto) := by kernel_rfl
theorem u95 (n : Nat) (x0 x1 : DVal) : cpJ PR (n + 1) 95 [x0, x1] = finP (D95 (cpJ PR n) (ciJ PR n) n x0 x1 emptySto) := by kernel_rfl
theorem u98 (n : Nat) (x0 x1 : DVal) : cpJ PR (n + 1) 98 [x0, x1] = finP (D98 (cpJ PR n) (ciJ PR n) n x0 x1 emptySto) := by kernel_rfl
end Go.Proofs.YtklepphkbbjbjaaDoor
namespace Go.Proofs.YtklepphkbbjbjaaDoor
set_option linter.unusedVariables false
set_option linter.unusedSimpArgs false
open Go
theorem index_none {c : UInt8} : ∀ {s : Bs}, c ∉ s → Lib.index s [c] = -1
  | [], _ => rfl
  | b :: l, h => by
    simp only [List.mem_cons, not_or] at h
    have := index_none h.2
    have hb : ¬ (c = b) := h.1
    simp [Lib.index, List.isPrefixOf, hb, this]
theorem index_at {c : UInt8} {b : Bs} : ∀ {a : Bs}, c ∉ a → Lib.index (a ++ c :: b) [c] = a.length
  | [], _ => by simp [Lib.index, List.isPrefixOf]
  | x :: a, h => by
    simp only [List.mem_cons, not_or] at h
    have := index_at (b := b) h.2
    have hb : ¬ (c = x) := h.1
    have hne : ¬ ((a.length : Int) = -1) := by omega
    simp [Lib.index, List.isPrefixOf, hb, this, hne]
def joinC (c : UInt8) (p : Bs) (r : List Bs) : Bs := p ++ r.flatMap fun q => c :: q
theorem count_join {c : UInt8} : ∀ {r : List Bs} {p : Bs}, c ∉ p → (∀ q ∈ r, c ∉ q) → Lib.count (joinC c p r) [c] = r.length
  | [], p, hp, _ => by simp [joinC, Lib.count_miss (index_none hp)]
  | q :: r, p, hp, hr => by
    have e : joinC c p (q :: r) = p ++ c :: joinC c q r := by simp [joinC]
    rw [e, Lib.count_hit (by simp) (index_at hp)]
    have : (p ++ c :: joinC c q r).drop (p.length + [c].length) = joinC c q r := by simp
    rw [this, count_join (hr q (by simp)) (fun x hx => hr x (by simp [hx]))]
    simp; omega
theorem splitK_join {c : UInt8} : ∀ {r : List Bs} {p : Bs} {k : Nat}, r.length ≤ k → c ∉ p → (∀ q ∈ r, c ∉ q) → Lib.splitK [c] 0 k (joinC c p r) = p :: r
  | [], p, k, hk, hp, _ => by
    have e : joinC c p [] = p := by simp [joinC]
    rw [e]
    cases k with
    | zero => rfl
    | succ k => simp [Lib.splitK, index_none hp]
  | q :: r, p, k, hk, hp, hr => by
    obtain ⟨k, rfl⟩ : ∃ j, k = j + 1 := ⟨k - 1, by simp at hk; omega⟩
    have e : joinC c p (q :: r) = p ++ c :: joinC c q r := by simp [joinC]
    have hne : ¬ ((p.length : Int) = -1) := by omega
    rw [e, Lib.splitK, index_at hp]
    have : (p ++ c :: joinC c q r).drop (p.length + 1) = joinC c q r := by simp
    simp [hne, this, splitK_join (k := k) (by simp at hk; omega) (hr q (by simp)) (fun x hx => hr x (by simp [hx]))]
theorem joinC_len {c : UInt8} : ∀ {r : List Bs} {p : Bs}, r.length ≤ (joinC c p r).length
  | [], p => by simp
  | q :: r, p => by
    have := joinC_len (c := c) (r := r) (p := q)
    have e : joinC c p (q :: r) = p ++ c :: joinC c q r := by simp [joinC]
    rw [e]
    simp; omega
theorem split_join {c : UInt8} {r : List Bs} {p : Bs} (hp : c ∉ p) (hr : ∀ q ∈ r, c ∉ q) : Lib.splitN (joinC c p r) [c] (Lib.count (joinC c p r) [c] + 1) = p :: r := by
  unfold Lib.splitN
  rw [count_join hp hr]
  exact splitK_join (by have := joinC_len (c := c) (r := r) (p := p); omega) hp hr
theorem split_exists (c : UInt8) : ∀ (s : Bs), ∃ p r, s = joinC c p r ∧ c ∉ p ∧ ∀ q ∈ r, c ∉ q
  | [] => ⟨[], [], rfl, by simp, by simp⟩
  | x :: s => by
    obtain ⟨p, r, rfl, h1, h2⟩ := split_exists c s
    by_cases h : x = c
    · subst h
      exact ⟨[], p :: r, by simp [joinC], by simp, by simpa using ⟨h1, h2⟩⟩
    · exact ⟨x :: p, r, by simp [joinC], by simp [h1, Ne.symm h], h2⟩
def parts (c : UInt8) : Bs → List Bs
  | [] => [[]]
  | b :: s => if b = c then [] :: parts c s else match parts c s with
    | p :: ps => (b :: p) :: ps
    | [] => [[b]]
theorem parts_none {c : UInt8} : ∀ {p : Bs}, c ∉ p → parts c p = [p]
  | [], _ => rfl
  | b :: p, h => by
    simp only [List.mem_cons, not_or] at h
    simp [parts, Ne.symm h.1, parts_none h.2]
theorem parts_at {c : UInt8} : ∀ {p s : Bs}, c ∉ p → parts c (p ++ c :: s) = p :: parts c s
  | [], s, _ => by simp [parts]
  | b :: p, s, h => by
    simp only [List.mem_cons, not_or] at h
    simp [parts, Ne.symm h.1, parts_at h.2]
theorem parts_join {c : UInt8} : ∀ {r : List Bs} {p : Bs}, c ∉ p → (∀ q ∈ r, c ∉ q) → parts c (joinC c p r) = p :: r
  | [], p, hp, _ => by simp [joinC, parts_none hp]
  | q :: r, p, hp, hr => by
    have e : joinC c p (q :: r) = p ++ c :: joinC c q r := by simp [joinC]
    rw [e, parts_at hp, parts_join (hr q (by simp)) (fun x hx => hr x (by simp [hx]))]
theorem split_parts (c : UInt8) (s : Bs) : Lib.splitN s [c] (Lib.count s [c] + 1) = parts c s := by
  obtain ⟨p, r, rfl, hp, hr⟩ := split_exists c s
  rw [split_join hp hr, parts_join hp hr]
theorem parts_len (c : UInt8) (s : Bs) : (parts c s).length ≤ s.length + 1 ∧ ∀ p ∈ parts c s, p.length ≤ s.length := by
  induction s with
  | nil => simp [parts]
  | cons b s ih =>
    unfold parts
    split
    · refine ⟨by simp; omega, fun p hp => ?_⟩
      rcases List.mem_cons.1 hp with rfl | hp
      · simp
      · have := ih.2 p hp; simp; omega
    · split
      · rename_i q qs e
        rw [e] at ih
        refine ⟨by simp at ih ⊢; omega, fun p hp => ?_⟩
        rcases List.mem_cons.1 hp with rfl | hp
        · have := ih.2 q (by simp); simp; omega
        · have := ih.2 p (by simp [hp]); simp; omega
      · simp
end Go.Proofs.YtklepphkbbjbjaaDoor
namespace Go.Proofs.YtklepphkbbjbjaaDoor
set_option linter.unusedVariables false
set_option linter.unusedSimpArgs false
set_option maxRecDepth 20000
set_option maxHeartbeats 2000000
open Go
theorem u51 (n : Nat) (xs : List DVal) : cpJ PR (n + 1) 51 xs = genSplitSem xs := by
  have e : PR 51 = some (.prim genSplitSem) := by kernel_rfl
  simp [cpJ, evJ, e, Function.comp_def]
theorem u89 (n : Nat) (xs : List DVal) : cpJ PR (n + 1) 89 xs = containsRuneSem xs := by
  have e : PR 89 = some (.prim containsRuneSem) := by kernel_rfl
  simp [cpJ, evJ, e, Function.comp_def]
theorem u58 (n : Nat) (xs : List DVal) : cpJ PR (n + 1) 58 xs = indexByteSem xs := by
  have e : PR 58 = some (.prim indexByteSem) := by kernel_rfl
  simp [cpJ, evJ, e, Function.comp_def]
theorem v23 (n : Nat) (xs : List DVal) (σ : Sto) : ciJ PR (n + 1) 23 xs σ = listSem xs σ := by
  have e : PR 23 = some (.sprim listSem) := by kernel_rfl
  simp [ciJ, evJ, e]
theorem u8_lit (c : UInt8) (k : Nat) (hk : k < 256) : (((c.toNat : Int) == (k : Int)) : Bool) = (c == UInt8.ofNat k) := by
  by_cases h : c = UInt8.ofNat k
  · subst h
    simp only [beq_self_eq_true]
    simp [Nat.mod_eq_of_lt hk]
  · have h2 : (c == UInt8.ofNat k) = false := by simpa using h
    rw [h2]
    refine beq_eq_false_iff_ne.2 fun e => h ?_
    apply UInt8.toNat_inj.1
    simp [Nat.mod_eq_of_lt hk]
    omega
theorem u8_47 (c : UInt8) : (((c.toNat : Int) == 47) : Bool) = (c == 47) := u8_lit c 47 (by decide)
theorem u8_34 (c : UInt8) : (((c.toNat : Int) == 34) : Bool) = (c == 34) := u8_lit c 34 (by decide)
theorem u8_42 (c : UInt8) : (((c.toNat : Int) == 42) : Bool) = (c == 42) := u8_lit c 42 (by decide)
theorem u8_63 (c : UInt8) : (((c.toNat : Int) == 63) : Bool) = (c == 63) := u8_lit c 63 (by decide)
def pB (b : UInt8) : Bool := decide (33 ≤ b.toNat) && decide (b.toNat ≤ 126) && b != 47 && b != 42 && b != 63 && b != 34
def nameV (s : Bs) : Bool := decide (1 ≤ s.length) && decide (s.length ≤ 32) && s.all pB
theorem e77 {n : Nat} (hn : 2 ≤ n) (b : UInt8) : cpJ PR n 77 [.int .u8 b.toNat] = some (.bool (pB b)) := by
  obtain ⟨n, rfl⟩ : ∃ m, n = m + 1 := ⟨n - 1, by omega⟩
  rw [u77]
  by_cases h1 : 33 ≤ b.toNat
  · have h1' : (33 : Int) ≤ b.toNat := by omega
    by_cases h2 : b.toNat ≤ 126
    · have h2' : (b.toNat : Int) ≤ 126 := by omega
      have hw : IntKind.i32.wrap (b.toNat : Int) = b.toNat := by simp -implicitDefEqProofs [IntKind.wrap, IntKind.bits, IntKind.signed]; omega
      have hc : cpJ PR n 89 [.str [47, 42, 63, 34], .int .i32 b.toNat] = some (.bool (([47, 42, 63, 34] : Bs).contains b)) := by
        obtain ⟨n, rfl⟩ : ∃ m, n = m + 1 := ⟨n - 1, by omega⟩
        rw [u89]
        simp only [containsRuneSem]
        rw [if_pos (by omega)]
        simp
      have hp : pB b = !([47, 42, 63, 34] : Bs).contains b := by
        unfold pB
        simp only [h1, h2, decide_true, Bool.true_and, bne, List.contains_cons, List.contains_nil, Bool.or_false, Bool.not_or, Bool.and_assoc]
      simp -implicitDefEqProofs [D77, h1', h2', hw, hc, hp]
    · have h2' : ¬ (b.toNat : Int) ≤ 126 := by omega
      simp -implicitDefEqProofs [D77, h1', h2', pB, h1, h2]
  · have h1' : ¬ (33 : Int) ≤ b.toNat := by omega
    simp -implicitDefEqProofs [D77, h1', pB, h1]
theorem e37 {n : Nat} (hn : 2 ≤ n) (s : Bs) (hs : s.length ≤ 100000) : cpJ PR n 37 [.str s, .str [47]] = some (strsD .full (parts 47 s)) := by
  obtain ⟨n, rfl⟩ : ∃ m, n = m + 1 := ⟨n - 1, by omega⟩
  have h : cpJ PR n 51 [.str s, .str [47], .int .i64 0, .int .i64 (-1)] = some (strsD .full (parts 47 s)) := by
    obtain ⟨n, rfl⟩ : ∃ m, n = m + 1 := ⟨n - 1, by omega⟩
    rw [u51]
    simp only [genSplitSem]
    rw [if_pos ⟨by omega, by simp⟩, split_parts]
    rfl
  rw [u37]
  simp -implicitDefEqProofs [D37, h]
theorem e98 {n : Nat} (hn : 1 ≤ n) (s : Bs) (hs : s.length < 1000000000) : cpJ PR n 98 [.str (47 :: s), .str [47]] = some (.bool true) := by
  obtain ⟨n, rfl⟩ : ∃ m, n = m + 1 := ⟨n - 1, by omega⟩
  rw [u98]
  have h1 : (1 : Int) ≤ (s.length : Int) + 1 := by omega
  simp -implicitDefEqProofs [D98, h1]
theorem e88 {n : Nat} (hn : 3 ≤ n) (s : Bs) (hs : s.length < 1000000000) : cpJ PR n 88 [.str (47 :: s), .str [47]] = some (.tup [.str s, .bool true]) := by
  obtain ⟨n, rfl⟩ : ∃ m, n = m + 1 := ⟨n - 1, by omega⟩
  have hc : cpJ PR n 95 [.str (47 :: s), .str [47]] = some (.tup [.str s, .bool true]) := by
    obtain ⟨n, rfl⟩ : ∃ m, n = m + 1 := ⟨n - 1, by omega⟩
    have h := e98 (n := n) (by omega) s hs
    rw [u95]
    have h1 : (1 : Int) ≤ (s.length : Int) + 1 := by omega
    simp -implicitDefEqProofs [D95, h, h1]
  rw [u88]
  simp -implicitDefEqProofs [D88, hc]
theorem e76 {n : Nat} (hn : 5 ≤ n) (s : Bs) (hs : s.length ≤ 32) (h0 : s ≠ []) (h47 : 47 ∉ s) : cpJ PR n 76 [.str (47 :: s)] = some (.tup [strsD .full [s], .bool true]) := by
  obtain ⟨n, rfl⟩ : ∃ m, n = m + 1 := ⟨n - 1, by omega⟩
  rw [u76]
  have hc := e88 (n := n) (by omega) s (by omega)
  have hp := e37 (n := n) (by omega) s (by omega)
  rw [parts_none h47] at hp
  have h2 : ¬ (256 : Int) < (s.length : Int) + 1 := by omega
  have h3 : (s == []) = false := by simpa using h0
  simp -implicitDefEqProofs [D76, hc, hp, h0, h3, h2, strsD]
theorem l59_0 {n : Nat} (hn : 5 ≤ n) (t : Bs) (ht : t.length ≤ 100000) (i0 : Nat) (u v : DVal) (σ : Sto) (hi0 : i0 < 100000) : ∀ (k i m : Nat), i + k = t.length → k < m →
    iterJ 1 (L59_0 (cpJ PR n) (ciJ PR n) n (.int .i64 i0) (.str t) (.int .i64 t.length)) m [.int .i64 i, u, v] σ =
      if (t.drop i).all pB then some (.next 0 [.int .i64 ((i0 + 1 : Nat) : Int), u, v] σ) else some (.done (.tup [.nils, .bool false]) σ) := by
  intro k
  induction k with
  | zero =>
    intro i m hi hm
    obtain ⟨m, rfl⟩ : ∃ q, m = q + 1 := ⟨m - 1, by omega⟩
    have hi' : ¬ ((i : Int) < t.length) := by omega
    have hw := wrap_succ (i := i0) (by omega)
    rw [List.drop_eq_nil_of_le (by omega)]
    refine iterJ_out ?_ (by decide)
    simp only [Int.natCast_add, Int.natCast_one] at hw
    simp -implicitDefEqProofs [L59_0, B59_0, hi', hw]
  | succ k ih =>
    intro i m hi hm
    obtain ⟨m, rfl⟩ : ∃ q, m = q + 1 := ⟨m - 1, by omega⟩
    have hi' : ((i : Int) < t.length) := by omega
    obtain ⟨x, hx⟩ := get_some (by omega : i < t.length)
    have hw := wrap_succ (i := i) (by omega)
    simp only [Int.natCast_add, Int.natCast_one] at hw
    have hb := e77 (n := n) (by omega) x
    rw [drop_get hx, List.all_cons]
    cases hp : pB x with
    | true =>
      rw [hp] at hb
      rw [iterJ_next' (vs' := [.int .i64 ((i + 1 : Nat) : Int), u, v]) (σ' := σ) (by simp -implicitDefEqProofs [L59_0, B59_0, hi', hx, hb, hw]), ih (i + 1) m (by omega) (by omega)]
      rw [Bool.true_and]
    | false =>
      rw [hp] at hb
      refine iterJ_done ?_
      simp -implicitDefEqProofs [L59_0, B59_0, hi', hx, hb]
theorem e59 {n : Nat} (hn : 1000 ≤ n) (s : Bs) (hs : s.length ≤ 32) (h0 : s ≠ []) (h47 : 47 ∉ s) : ∃ x, cpJ PR n 59 [.str (47 :: s)] = some (.tup [x, .bool (s.all pB)]) ∧ x.sealVal = some x := by
  obtain ⟨n, rfl⟩ : ∃ m, n = m + 1 := ⟨n - 1, by omega⟩
  have h := e76 (n := n) (by omega) s hs h0 h47
  rw [show strsD .full [s] = slD .full 1 [[.str s]] from rfl] at h
  rw [u59]
  have h3 : (s == []) = false := by simpa using h0
  have hin := l59_0 (n := n) (by omega) s (by omega) 0 (.bool false) .nils emptySto (by omega) s.length 0 n (by omega) (by omega)
  obtain ⟨m, rfl⟩ : ∃ q, n = q + 2 := ⟨n - 2, by omega⟩
  simp only [Int.natCast_zero, List.drop_zero] at hin
  cases hp : s.all pB with
  | true =>
    rw [hp] at hin
    simp only [if_true, Nat.zero_add, Int.natCast_one] at hin
    refine ⟨slD .full 1 [[.str s]], ?_, by simp⟩
    have hl : iterJ 0 (L59_1 (cpJ PR (m + 2)) (ciJ PR (m + 2)) (m + 2) (slD .full 1 [[.str s]]) (.int .i64 1)) (m + 2) [.int .i64 0, .bool false, .nils] emptySto = some (.done (.tup [slD .full 1 [[.str s]], .bool true]) emptySto) := by
      rw [iterJ_next' (vs' := [.int .i64 1, .bool false, .nils]) (σ' := emptySto) (by simp -implicitDefEqProofs [L59_1, B59_1, h3, hin])]
      refine iterJ_done ?_
      simp -implicitDefEqProofs [L59_1, B59_1]
    simp -implicitDefEqProofs [D59, h, hl]
  | false =>
    rw [hp] at hin
    simp only [Bool.false_eq_true, if_false] at hin
    refine ⟨.nils, ?_, rfl⟩
    have hl : iterJ 0 (L59_1 (cpJ PR (m + 2)) (ciJ PR (m + 2)) (m + 2) (slD .full 1 [[.str s]]) (.int .i64 1)) (m + 2) [.int .i64 0, .bool false, .nils] emptySto = some (.done (.tup [.nils, .bool false]) emptySto) := by
      refine iterJ_done ?_
      simp -implicitDefEqProofs [L59_1, B59_1, h3, hin]
    simp -implicitDefEqProofs [D59, h, hl]
theorem e48 {n : Nat} (hn : 1010 ≤ n) (s : Bs) (hs : s.length ≤ 32) (h0 : s ≠ []) (h47 : 47 ∉ s) : cpJ PR n 48 [.str (47 :: s)] = some (.int .i64 (if s.all pB then 0 else 9)) := by
  obtain ⟨n, rfl⟩ : ∃ m, n = m + 1 := ⟨n - 1, by omega⟩
  obtain ⟨x, h, hx⟩ := e59 (n := n) (by omega) s hs h0 h47
  have hk : ∀ ok : Bool, cpJ PR n 60 [.str (47 :: s), .bool ok] = some (.int .i64 (if ok then 0 else 9)) := fun ok => by
    obtain ⟨n, rfl⟩ : ∃ m, n = m + 1 := ⟨n - 1, by omega⟩
    rw [u60]
    have h2 : ¬ (256 : Int) < (s.length : Int) + 1 := by omega
    cases ok <;> simp -implicitDefEqProofs [D60, h2]
  have hk := hk (s.all pB)
  rw [u48]
  simp -implicitDefEqProofs [D48, h, hx, hk]
theorem all_no {s : Bs} (h : s.all pB = true) : 47 ∉ s := fun hm => by
  have := List.all_eq_true.1 h 47 hm
  simp [pB] at this
theorem e32 {n : Nat} (hn : 1020 ≤ n) (s : Bs) : cpJ PR n 32 [.str s] = some (.bool (nameV s)) := by
  obtain ⟨n, rfl⟩ : ∃ m, n = m + 1 := ⟨n - 1, by omega⟩
  rw [u32]
  unfold nameV
  by_cases h0 : s = []
  · subst h0
    simp -implicitDefEqProofs [D32]
  · have hl0 : 1 ≤ s.length := List.length_pos_iff.2 h0
    have h3 : (s == []) = false := by simpa using h0
    have h4 : (s != []) = true := by simpa using h0
    by_cases h1 : s.length ≤ 32
    · have h1' : (s.length : Int) ≤ 32 := by omega
      have hi : cpJ PR n 47 [.str s, .int .u8 47] = some (.int .i64 (Lib.indexByte s 47)) := by
        obtain ⟨n, rfl⟩ : ∃ m, n = m + 2 := ⟨n - 2, by omega⟩
        have hp : cpJ PR (n + 1) 58 [.str s, .int .u8 47] = some (.int .i64 (Lib.indexByte s 47)) := by rw [u58]; rfl
        rw [u47]
        simp -implicitDefEqProofs [D47, hp]
      by_cases hm : 47 ∈ s
      · have hlt : ¬ Lib.indexByte s 47 < 0 := fun h => by
          have := Lib.contains_iff_indexByte s 47
          simp [hm] at this
          omega
        have ha : s.all pB = false := by
          cases h : s.all pB with
          | false => rfl
          | true => exact absurd hm (all_no h)
        simp -implicitDefEqProofs [D32, h0, h3, h4, h1', hi, hlt, ha]
      · have hlt : Lib.indexByte s 47 < 0 := by
          have := Lib.contains_iff_indexByte s 47
          simp [hm] at this
          omega
        have hp := e48 (n := n) (by omega) s h1 h0 hm
        have ha : binStr .add [47] s = some (.str (47 :: s)) := addS (by simp; omega)
        cases hs : s.all pB with
        | true =>
          rw [hs] at hp
          simp -implicitDefEqProofs [D32, h0, h3, h4, h1', hi, hlt, ha, hp, h1, hl0, -binStr.eq_1]
        | false =>
          rw [hs] at hp
          simp -implicitDefEqProofs [D32, h0, h3, h4, h1', hi, hlt, ha, hp, h1, hl0, -binStr.eq_1]
    · have h1' : ¬ (s.length : Int) ≤ 32 := by omega
      simp -implicitDefEqProofs [D32, h0, h3, h4, h1', h1]
theorem l49 {n : Nat} (s : Bs) (hs : s.length ≤ 9223372036854775807) (σ : Sto) : ∀ (k i m : Nat), i + k = s.length → k < m →
    iterJ 0 (L49_0 (cpJ PR n) (ciJ PR n) n (.str s)) m [.int .i64 i, .bool false] σ = some (.done (.bool ((s.drop i).all pB && (decide (1 ≤ s.length) && decide (s.length ≤ 32)))) σ) := by
  intro k
  induction k with
  | zero =>
    intro i m hi hm
    obtain ⟨m, rfl⟩ : ∃ q, m = q + 1 := ⟨m - 1, by omega⟩
    have hi' : ¬ ((i : Int) < s.length) := by omega
    rw [List.drop_eq_nil_of_le (by omega)]
    refine iterJ_done ?_
    have h1 : decide ((1 : Int) ≤ s.length) = decide (1 ≤ s.length) := by rw [decide_eq_decide]; omega
    have h2 : decide ((s.length : Int) ≤ 32) = decide (s.length ≤ 32) := by rw [decide_eq_decide]; omega
    rw [← h1, ← h2]
    by_cases b : (1 : Int) ≤ s.length
    · simp -implicitDefEqProofs [L49_0, B49_0, hi', b]
    · simp -implicitDefEqProofs [L49_0, B49_0, hi', b]
  | succ k ih =>
    intro i m hi hm
    obtain ⟨m, rfl⟩ : ∃ q, m = q + 1 := ⟨m - 1, by omega⟩
    have hi' : ((i : Int) < s.length) := by omega
    obtain ⟨x, hx⟩ := get_some (by omega : i < s.length)
    have hw : IntKind.i64.wrap ((i : Int) + 1) = (i : Int) + 1 := wrap_i64 (by omega) (by omega)
    rw [drop_get hx, List.all_cons]
    have a1 : decide ((x.toNat : Int) < 33) = !decide (33 ≤ x.toNat) := by
      rw [Bool.eq_iff_iff]; simp
      omega
    have a2 : decide (126 < (x.toNat : Int)) = !decide (x.toNat ≤ 126) := by
      rw [Bool.eq_iff_iff]; simp
      omega
    have n47 := u8_47 x
    have n42 := u8_42 x
    have n63 := u8_63 x
    have n34 := u8_34 x
    have hpx : pB x = !(decide ((x.toNat : Int) < 33) || decide (126 < (x.toNat : Int)) || ((x.toNat : Int) == 47) || ((x.toNat : Int) == 42) || ((x.toNat : Int) == 63) || ((x.toNat : Int) == 34)) := by
      rw [a1, a2, n47, n42, n63, n34]
      simp only [pB, bne, Bool.not_or, Bool.not_not, Bool.and_assoc]
    cases hp : pB x with
    | true =>
      rw [hp] at hpx
      rw [iterJ_next' (vs' := [.int .i64 ((i + 1 : Nat) : Int), .bool false]) (σ' := σ) (by
        have h6 := Bool.not_eq_true' _ ▸ hpx.symm
        simp only [Bool.or_eq_false_iff, decide_eq_false_iff_not] at h6
        obtain ⟨⟨⟨⟨⟨b1, b2⟩, b3⟩, b4⟩, b5⟩, b6⟩ := h6
        simp -implicitDefEqProofs [L49_0, B49_0, hi', hx, b1, b2, b3, b4, b5, b6, hw]), ih (i + 1) m (by omega) (by omega)]
      rw [Bool.true_and]
    | false =>
      rw [hp] at hpx
      refine iterJ_done ?_
      have h6 : (decide ((x.toNat : Int) < 33) || decide (126 < (x.toNat : Int)) || ((x.toNat : Int) == 47) || ((x.toNat : Int) == 42) || ((x.toNat : Int) == 63) || ((x.toNat : Int) == 34)) = true := by
        rw [← Bool.not_eq_false', ← hpx]
      by_cases b1 : (x.toNat : Int) < 33
      · simp -implicitDefEqProofs [L49_0, B49_0, hi', hx, b1]
      by_cases b2 : 126 < (x.toNat : Int)
      · simp -implicitDefEqProofs [L49_0, B49_0, hi', hx, b1, b2]
      cases b3 : ((x.toNat : Int) == 47) with
      | true => simp -implicitDefEqProofs [L49_0, B49_0, hi', hx, b1, b2, b3]
      | false =>
        cases b4 : ((x.toNat : Int) == 42) with
        | true => simp -implicitDefEqProofs [L49_0, B49_0, hi', hx, b1, b2, b3, b4]
        | false =>
          cases b5 : ((x.toNat : Int) == 63) with
          | true => simp -implicitDefEqProofs [L49_0, B49_0, hi', hx, b1, b2, b3, b4, b5]
          | false =>
            cases b6 : ((x.toNat : Int) == 34) with
            | true => simp -implicitDefEqProofs [L49_0, B49_0, hi', hx, b1, b2, b3, b4, b5, b6]
            | false => simp [b1, b2, b3, b4, b5, b6] at h6
theorem e49 {n : Nat} (s : Bs) (hs : s.length ≤ 9223372036854775807) (hn : s.length + 2 ≤ n) : cpJ PR n 49 [.str s] = some (.bool (nameV s)) := by
  obtain ⟨n, rfl⟩ : ∃ m, n = m + 1 := ⟨n - 1, by omega⟩
  have hl := l49 (n := n) s hs emptySto s.length 0 n (by omega) (by omega)
  simp only [Int.natCast_zero, List.drop_zero] at hl
  rw [u49]
  unfold nameV
  rw [Bool.and_comm]
  simp -implicitDefEqProofs [D49, hl]
end Go.Proofs.YtklepphkbbjbjaaDoor
namespace Go.Proofs.YtklepphkbbjbjaaDoor
set_option linter.unusedVariables false
set_option linter.unusedSimpArgs false
open Go
def fo (os : List ObjV) (k : Int) : Option (Nat × ObjV) := firstAt (fun x => k == x.num) os 0
def kids (os : List ObjV) (d : Int) : List ObjV := os.filter fun x => x.dir == d && x.num != 1
def nms (os : List ObjV) : Nat → Int → List Bs
  | 0, _ => []
  | k + 1, n => if n = 1 then [] else match fo os n with
    | none => []
    | some (_, x) => nms os k x.dir ++ [x.name]
def names (os : List ObjV) (n : Int) : List Bs := nms os n.toNat n
def path (os : List ObjV) (n : Int) : Bs := (names os n).flatMap fun q => 47 :: q
def rpath (os : List ObjV) (n : Int) : Bs := if n = 1 then [47] else path os n
theorem fo_some {os : List ObjV} {k : Int} {i : Nat} {x : ObjV} (h : fo os k = some (i, x)) : os[i]? = some x ∧ x ∈ os ∧ x.num = k := by
  obtain ⟨m, h1, h2, h3, -⟩ := firstAt_some h
  obtain rfl : i = m := by omega
  exact ⟨h2, List.mem_of_getElem? h2, (by simpa using h3 : k = x.num).symm⟩
theorem fo_none {os : List ObjV} {k : Int} (h : fo os k = none) : ∀ x ∈ os, x.num ≠ k := fun x hx e => by
  have := firstAt_none h x hx
  simp [e] at this
structure Wf0 (os : List ObjV) (last : Int) : Prop where
  root : ∃ lab rest, os = ⟨1, 0, [], 2, lab⟩ :: rest
  sorted : os.Pairwise fun a b => a.num < b.num
  top : ∀ x ∈ os, x.num ≤ last
  dir : ∀ x ∈ os, x.num ≠ 1 → ∃ d ∈ os, d.num = x.dir ∧ d.kind = 2
  less : ∀ x ∈ os, x.num ≠ 1 → x.dir < x.num
  name : ∀ x ∈ os, x.num ≠ 1 → nameV x.name = true
  uniq : ∀ x ∈ os, ∀ y ∈ os, x.num ≠ 1 → y.num ≠ 1 → x.dir = y.dir → x.name = y.name → x = y
structure Wf (os : List ObjV) (last : Int) : Prop extends Wf0 os last where
  short : ∀ x ∈ os, (path os x.num).length ≤ 256
  len : os.length ≤ 256
theorem sorted_inj : ∀ {os : List ObjV}, os.Pairwise (fun a b => a.num < b.num) → ∀ x ∈ os, ∀ y ∈ os, x.num = y.num → x = y
  | [], _, x, hx, _, _, _ => by cases hx
  | a :: os, h, x, hx, y, hy, e => by
    obtain ⟨h1, h2⟩ := List.pairwise_cons.1 h
    rcases List.mem_cons.1 hx with e1 | hx' <;> rcases List.mem_cons.1 hy with e2 | hy'
    · rw [e1, e2]
    · have := h1 y hy'; rw [e1] at e; omega
    · have := h1 x hx'; rw [e2] at e; omega
    · exact sorted_inj h2 x hx' y hy' e
section
variable {os os' : List ObjV} {last last' : Int}
theorem Wf0.inj (h : Wf0 os last) {x y : ObjV} (hx : x ∈ os) (hy : y ∈ os) (e : x.num = y.num) : x = y := sorted_inj h.sorted x hx y hy e
theorem Wf0.pos (h : Wf0 os last) {x : ObjV} (hx : x ∈ os) : 1 ≤ x.num := by
  obtain ⟨lab, rest, rfl⟩ := h.root
  rcases List.mem_cons.1 hx with rfl | hx
  · exact Int.le_refl _
  · have : (1 : Int) < x.num := (List.pairwise_cons.1 h.sorted).1 x hx
    omega
theorem Wf0.one (h : Wf0 os last) : ∃ x ∈ os, x.num = 1 ∧ x.dir = 0 ∧ x.name = [] ∧ x.kind = 2 := by
  obtain ⟨lab, rest, rfl⟩ := h.root
  exact ⟨_, List.mem_cons_self, rfl, rfl, rfl, rfl⟩
theorem Wf0.last_pos (h : Wf0 os last) : 1 ≤ last := by
  obtain ⟨x, hx, h1, -⟩ := h.one
  have := h.top x hx
  omega
theorem Wf0.fo (h : Wf0 os last) {x : ObjV} (hx : x ∈ os) : ∃ i, fo os x.num = some (i, x) ∧ os[i]? = some x := by
  cases hf : Go.Proofs.YtklepphkbbjbjaaDoor.fo os x.num with
  | none => exact absurd rfl (fo_none hf x hx)
  | some r =>
    obtain ⟨i, y⟩ := r
    obtain ⟨h1, h2, h3⟩ := fo_some hf
    have := h.inj h2 hx h3
    subst this
    exact ⟨i, rfl, h1⟩
theorem Wf0.up (h : Wf0 os last) {x : ObjV} (hx : x ∈ os) (h1 : x.num ≠ 1) : ∃ d ∈ os, d.num = x.dir ∧ d.kind = 2 ∧ 1 ≤ x.dir ∧ x.dir < x.num := by
  obtain ⟨d, hd, e, hk⟩ := h.dir x hx h1
  exact ⟨d, hd, e, hk, by have := h.pos hd; omega, h.less x hx h1⟩
theorem Wf0.ind (h : Wf0 os last) {P : Int → Prop} (h1 : P 1) (hs : ∀ x ∈ os, x.num ≠ 1 → P x.dir → P x.num) : ∀ x ∈ os, P x.num := by
  have key : ∀ (k : Nat), ∀ x ∈ os, x.num.toNat ≤ k → P x.num := by
    intro k
    induction k with
    | zero => intro x hx hk; have := h.pos hx; omega
    | succ k ih =>
      intro x hx hk
      by_cases e : x.num = 1
      · rw [e]; exact h1
      · obtain ⟨d, hd, e1, -, h2, h3⟩ := h.up hx e
        exact hs x hx e (by rw [← e1]; exact ih d hd (by omega))
  exact fun x hx => key _ x hx (Nat.le_refl _)
theorem nms_one (k : Nat) : nms os k 1 = [] := by cases k <;> simp [nms]
theorem Wf0.nms_fuel (h : Wf0 os last) : ∀ x ∈ os, ∀ k, x.num.toNat ≤ k → nms os k x.num = names os x.num := by
  refine h.ind (P := fun n => ∀ k, n.toNat ≤ k → nms os k n = names os n) (fun k _ => by unfold names; rw [nms_one, nms_one]) fun x hx h1 ih k hk => ?_
  obtain ⟨d, hd, e1, -, h2, h3⟩ := h.up hx h1
  obtain ⟨i, hf, -⟩ := h.fo hx
  obtain ⟨q, hq⟩ : ∃ q, x.num.toNat = q + 1 := ⟨x.num.toNat - 1, by omega⟩
  obtain ⟨k, rfl⟩ : ∃ q, k = q + 1 := ⟨k - 1, by omega⟩
  unfold names
  rw [hq]
  simp only [nms, h1, if_false, hf]
  rw [ih k (by omega), ih q (by omega)]
theorem names_root (os : List ObjV) : names os 1 = [] := nms_one _
theorem Wf0.names_step (h : Wf0 os last) {x : ObjV} (hx : x ∈ os) (h1 : x.num ≠ 1) : names os x.num = names os x.dir ++ [x.name] := by
  obtain ⟨d, hd, e1, -, h2, h3⟩ := h.up hx h1
  obtain ⟨i, hf, -⟩ := h.fo hx
  have := h.nms_fuel x hx (x.num.toNat + 1) (by omega)
  rw [← this]
  simp only [nms, h1, if_false, hf]
  rw [← e1, h.nms_fuel d hd _ (by omega)]
theorem path_root (os : List ObjV) : path os 1 = [] := by unfold path; rw [names_root]; rfl
theorem Wf0.path_step (h : Wf0 os last) {x : ObjV} (hx : x ∈ os) (h1 : x.num ≠ 1) : path os x.num = path os x.dir ++ 47 :: x.name := by
  unfold path
  rw [h.names_step hx h1]
  simp
theorem Wf0.names_within (h : Wf0 os last) (h' : Wf0 os' last') (hw : ∀ x ∈ os, x.num ≠ 1 → ∃ y ∈ os', y.num = x.num ∧ y.dir = x.dir ∧ y.name = x.name) : ∀ x ∈ os, names os' x.num = names os x.num := by
  refine h.ind (P := fun n => names os' n = names os n) (by rw [names_root, names_root]) fun x hx h1 ih => ?_
  obtain ⟨y, hy, e1, e2, e3⟩ := hw x hx h1
  rw [h.names_step hx h1, ← ih, ← e1, h'.names_step hy (by omega), e2, e3]
theorem Wf0.path_within (h : Wf0 os last) (h' : Wf0 os' last') (hw : ∀ x ∈ os, x.num ≠ 1 → ∃ y ∈ os', y.num = x.num ∧ y.dir = x.dir ∧ y.name = x.name) : ∀ x ∈ os, path os' x.num = path os x.num := fun x hx => by
  unfold path; rw [h.names_within h' hw x hx]
theorem mem_kids {d : Int} {x : ObjV} : x ∈ kids os d ↔ x ∈ os ∧ x.dir = d ∧ x.num ≠ 1 := by
  simp [kids]
theorem kids_none (h : Wf0 os last) {d : Int} (hd : ∀ x ∈ os, x.num = d → x.kind ≠ 2) : kids os d = [] := by
  refine List.eq_nil_iff_forall_not_mem.2 fun x hx => ?_
  obtain ⟨h1, h2, h3⟩ := mem_kids.1 hx
  obtain ⟨y, hy, e, hk⟩ := h.dir x h1 h3
  exact hd y hy (e.trans h2) hk
theorem Wf0.kid_uniq (h : Wf0 os last) {d : Int} {x y : ObjV} (hx : x ∈ kids os d) (hy : y ∈ kids os d) (e : x.name = y.name) : x = y := by
  obtain ⟨h1, h2, h3⟩ := mem_kids.1 hx
  obtain ⟨g1, g2, g3⟩ := mem_kids.1 hy
  exact h.uniq x h1 y g1 h3 g3 (h2.trans g2.symm) e
def kid (os : List ObjV) (d : Int) (q : Bs) : Option (Nat × ObjV) := firstAt (fun x => q == x.name) (kids os d) 0
theorem kid_some {d : Int} {q : Bs} {i : Nat} {x : ObjV} (h : kid os d q = some (i, x)) : x ∈ kids os d ∧ x.name = q ∧ (kids os d)[i]? = some x := by
  obtain ⟨m, h1, h2, h3, -⟩ := firstAt_some h
  obtain rfl : i = m := by omega
  exact ⟨List.mem_of_getElem? h2, (by simpa using h3 : q = x.name).symm, h2⟩
theorem kid_none {d : Int} {q : Bs} (h : kid os d q = none) : ∀ x ∈ kids os d, x.name ≠ q := fun x hx e => by
  have := firstAt_none h x hx
  simp [e] at this
theorem Wf0.kid (h : Wf0 os last) {d : Int} {x : ObjV} (hx : x ∈ kids os d) : ∃ i, kid os d x.name = some (i, x) := by
  cases hf : Go.Proofs.YtklepphkbbjbjaaDoor.kid os d x.name with
  | none => exact absurd rfl (kid_none hf x hx)
  | some r =>
    obtain ⟨i, y⟩ := r
    obtain ⟨h1, h2, -⟩ := kid_some hf
    have := h.kid_uniq h1 hx h2
    subst this
    exact ⟨i, rfl⟩
def ins (x : ObjV) : List ObjV → List ObjV
  | [] => [x]
  | y :: l => if x.name < y.name then x :: y :: l else y :: ins x l
def isort : List ObjV → List ObjV → List ObjV
  | acc, [] => acc
  | acc, x :: l => isort (ins x acc) l
def chl (os : List ObjV) (d : Int) : List ObjV := isort [] (kids os d)
def Srt (l : List ObjV) : Prop := l.Pairwise fun a b => a.name ≤ b.name
theorem ins_perm (x : ObjV) : ∀ (l : List ObjV), (ins x l).Perm (x :: l)
  | [] => .refl _
  | y :: l => by
    unfold ins
    split
    · exact .refl _
    · exact ((ins_perm x l).cons y).trans (.swap x y l)
theorem ins_srt {x : ObjV} : ∀ {l : List ObjV}, Srt l → Srt (ins x l)
  | [], _ => by simp [ins, Srt]
  | y :: l, h => by
    obtain ⟨h1, h2⟩ := List.pairwise_cons.1 h
    unfold ins
    split
    · rename_i hlt
      refine List.pairwise_cons.2 ⟨fun b hb => ?_, h⟩
      have hxy : x.name ≤ y.name := List.le_of_lt hlt
      rcases List.mem_cons.1 hb with rfl | hb
      · exact hxy
      · exact List.le_trans hxy (h1 b hb)
    · rename_i hnl
      refine List.pairwise_cons.2 ⟨fun b hb => ?_, ins_srt h2⟩
      rcases List.mem_cons.1 ((ins_perm x l).mem_iff.1 hb) with rfl | hb
      · exact List.not_lt.1 hnl
      · exact h1 b hb
theorem isort_perm : ∀ (l acc : List ObjV), (isort acc l).Perm (acc ++ l)
  | [], acc => by simp [isort]
  | x :: l, acc => by
    unfold isort
    refine (isort_perm l _).trans (((ins_perm x acc).append_right l).trans ?_)
    exact (List.perm_middle).symm
theorem isort_srt : ∀ (l : List ObjV) {acc : List ObjV}, Srt acc → Srt (isort acc l)
  | [], acc, h => h
  | x :: l, acc, h => by unfold isort; exact isort_srt l (ins_srt h)
theorem isort_snoc (acc l : List ObjV) (x : ObjV) : isort acc (l ++ [x]) = ins x (isort acc l) := by
  induction l generalizing acc with
  | nil => rfl
  | cons y l ih => simp only [List.cons_append, isort]; exact ih _
theorem chl_perm (os : List ObjV) (d : Int) : (chl os d).Perm (kids os d) := isort_perm (kids os d) []
theorem chl_srt (os : List ObjV) (d : Int) : Srt (chl os d) := isort_srt _ (by simp [Srt])
theorem mem_chl {d : Int} {x : ObjV} : x ∈ chl os d ↔ x ∈ os ∧ x.dir = d ∧ x.num ≠ 1 := (chl_perm os d).mem_iff.trans mem_kids
theorem names_sorted {d : Int} {l : List Bs} (hp : l.Perm ((kids os d).map ObjV.name)) : (l.mergeSort fun x y => decide (x ≤ y)) = (chl os d).map ObjV.name := by
  refine List.Perm.eq_of_pairwise (le := fun x y => x ≤ y) (fun a b _ _ h1 h2 => List.le_antisymm h1 h2) ?_ ?_ ?_
  · have := List.pairwise_mergeSort (le := fun x y : Bs => decide (x ≤ y)) (fun a b c h1 h2 => by simp only [decide_eq_true_eq] at *; exact List.le_trans h1 h2) (fun a b => by simp only [Bool.or_eq_true, decide_eq_true_eq]; exact List.le_total a b) l
    exact this.imp fun h => by simpa using h
  · have := chl_srt os d
    exact List.pairwise_map.2 this
  · exact (List.mergeSort_perm _ _).trans (hp.trans ((chl_perm os d).map _).symm)
theorem ins_mid {x : ObjV} : ∀ {A B : List ObjV}, (∀ a ∈ A, ¬ x.name < a.name) → (∀ b ∈ B.head?, x.name < b.name) → ins x (A ++ B) = A ++ x :: B
  | [], [], _, _ => rfl
  | [], b :: B, _, h => by simp only [List.nil_append, ins]; rw [if_pos (h b rfl)]
  | a :: A, B, h1, h2 => by
    simp only [List.cons_append, ins]
    rw [if_neg (h1 a (by simp)), ins_mid (fun a ha => h1 a (by simp [ha])) h2]
def pre (os : List ObjV) : Nat → Int → List Int
  | 0, _ => []
  | k + 1, d => d :: (chl os d).flatMap fun x => pre os k x.num
inductive Blw (os : List ObjV) (n : Int) : Int → Prop
  | refl : Blw os n n
  | step (x : ObjV) : x ∈ os → x.num ≠ 1 → Blw os n x.dir → Blw os n x.num
theorem Wf0.blw_le (h : Wf0 os last) {n m : Int} (hb : Blw os n m) : n ≤ m := by
  induction hb with
  | refl => exact Int.le_refl _
  | step x hx h1 _ ih => have := h.less x hx h1; omega
theorem Blw.trans {n m r : Int} (h : Blw os n m) (h' : Blw os m r) : Blw os n r := by
  induction h' with
  | refl => exact h
  | step x hx h1 _ ih => exact .step x hx h1 ih
theorem blw_cases {n m : Int} (h : Blw os n m) : m = n ∨ ∃ c ∈ chl os n, Blw os c.num m := by
  induction h with
  | refl => exact .inl rfl
  | step x hx h1 _ ih =>
    rcases ih with e | ⟨c, hc, hb⟩
    · exact .inr ⟨x, mem_chl.2 ⟨hx, e, h1⟩, .refl⟩
    · exact .inr ⟨c, hc, .step x hx h1 hb⟩
theorem Wf0.mem_pre (h : Wf0 os last) : ∀ (k : Nat) (n m : Int), n ≤ last → last < n + k → (m ∈ pre os k n ↔ Blw os n m)
  | 0, n, m, h1, h2 => by omega
  | k + 1, n, m, h1, h2 => by
    simp only [pre, List.mem_cons, List.mem_flatMap]
    constructor
    · rintro (rfl | ⟨c, hc, hm⟩)
      · exact .refl
      · obtain ⟨g1, g2, g3⟩ := mem_chl.1 hc
        have := h.less c g1 g3
        exact Blw.trans (.step c g1 g3 (by rw [g2]; exact .refl)) ((h.mem_pre k c.num m (h.top c g1) (by omega)).1 hm)
    · intro hb
      rcases blw_cases hb with e | ⟨c, hc, hb⟩
      · exact .inl e
      · obtain ⟨g1, g2, g3⟩ := mem_chl.1 hc
        have := h.less c g1 g3
        exact .inr ⟨c, hc, (h.mem_pre k c.num m (h.top c g1) (by omega)).2 hb⟩
theorem Wf0.linear (h : Wf0 os last) {a b m : Int} (ha : Blw os a m) (hb : Blw os b m) : Blw os a b ∨ Blw os b a := by
  induction ha with
  | refl => exact .inr hb
  | step x hx h1 hax ih =>
    generalize hm : x.num = m at hb
    cases hb with
    | refl => exact .inl (by rw [← hm]; exact .step x hx h1 hax)
    | step y hy h2 hby =>
      have := h.inj hx hy hm
      subst this
      exact ih hby
theorem Wf0.apart (h : Wf0 os last) {n m : Int} {c c' : ObjV} (hc : c ∈ chl os n) (hc' : c' ∈ chl os n) (h1 : Blw os c.num m) (h2 : Blw os c'.num m) : c = c' := by
  have key : ∀ {c c' : ObjV}, c ∈ chl os n → c' ∈ chl os n → Blw os c.num c'.num → c = c' := by
    intro c c' hc hc' hb
    obtain ⟨g1, g2, g3⟩ := mem_chl.1 hc
    obtain ⟨k1, k2, k3⟩ := mem_chl.1 hc'
    have hl := h.less c g1 g3
    generalize hm : c'.num = m at hb
    cases hb with
    | refl => exact h.inj g1 k1 hm.symm
    | step y hy h3 hby =>
      have := h.inj k1 hy hm
      subst this
      have := h.blw_le hby
      omega
  rcases h.linear h1 h2 with hb | hb
  · exact key hc hc' hb
  · exact (key hc' hc hb).symm
theorem nodup_flat {α β : Type} {f : α → List β} : ∀ {l : List α}, (∀ a ∈ l, (f a).Nodup) → l.Pairwise (fun a b => ∀ x ∈ f a, x ∉ f b) → (l.flatMap f).Nodup
  | [], _, _ => by simp
  | a :: l, h1, h2 => by
    obtain ⟨h3, h4⟩ := List.pairwise_cons.1 h2
    rw [List.flatMap_cons, List.nodup_append]
    refine ⟨h1 a (by simp), nodup_flat (fun b hb => h1 b (by simp [hb])) h4, fun x hx y hy e => ?_⟩
    obtain ⟨b, hb, hyb⟩ := List.mem_flatMap.1 hy
    exact h3 b hb x hx (e ▸ hyb)
theorem Wf0.chl_nodup (h : Wf0 os last) (n : Int) : (chl os n).Nodup := by
  refine (chl_perm os n).nodup_iff.2 ?_
  refine List.Nodup.sublist List.filter_sublist ?_
  exact h.sorted.imp fun {a b} hab e => by rw [e] at hab; omega
theorem Wf0.pre_nodup (h : Wf0 os last) : ∀ (k : Nat) (n : Int), n ≤ last → last < n + k → (pre os k n).Nodup
  | 0, n, h1, h2 => by omega
  | k + 1, n, h1, h2 => by
    have sub : ∀ c ∈ chl os n, c.num ≤ last ∧ last < c.num + k ∧ n < c.num := fun c hc => by
      obtain ⟨g1, g2, g3⟩ := mem_chl.1 hc
      have := h.less c g1 g3
      exact ⟨h.top c g1, by omega, by omega⟩
    simp only [pre, List.nodup_cons]
    refine ⟨fun hm => ?_, nodup_flat (fun c hc => h.pre_nodup k c.num (sub c hc).1 (sub c hc).2.1) ?_⟩
    · obtain ⟨c, hc, hm⟩ := List.mem_flatMap.1 hm
      have := h.blw_le ((h.mem_pre k c.num n (sub c hc).1 (sub c hc).2.1).1 hm)
      have := (sub c hc).2.2
      omega
    · refine (h.chl_nodup n).imp_of_mem fun {a b} ha hb hab x hx hx' => hab ?_
      exact h.apart ha hb ((h.mem_pre k _ x (sub a ha).1 (sub a ha).2.1).1 hx) ((h.mem_pre k _ x (sub b hb).1 (sub b hb).2.1).1 hx')
theorem len_sub {α : Type} [DecidableEq α] : ∀ {l l' : List α}, l.Nodup → (∀ x ∈ l, x ∈ l') → l.length ≤ l'.length
  | [], _, _, _ => by simp
  | a :: l, l', h, hs => by
    obtain ⟨h1, h2⟩ := List.nodup_cons.1 h
    have ha : a ∈ l' := hs a (by simp)
    have := len_sub (l' := l'.erase a) h2 fun x hx => (List.mem_erase_of_ne (fun e : x = a => h1 (e ▸ hx))).2 (hs x (by simp [hx]))
    rw [List.length_erase_of_mem ha] at this
    have := List.length_pos_of_mem ha
    simp only [List.length_cons]
    omega
theorem Wf0.blw_mem (h : Wf0 os last) {n m : Int} (hn : n ∈ os.map ObjV.num) (hb : Blw os n m) : m ∈ os.map ObjV.num := by
  cases hb with
  | refl => exact hn
  | step x hx _ _ => exact List.mem_map.2 ⟨x, hx, rfl⟩
theorem Wf0.pre_len (h : Wf0 os last) {k : Nat} {n : Int} (hn : n ∈ os.map ObjV.num) (hk : last < n + k) : (pre os k n).length ≤ os.length := by
  obtain ⟨x, hx, rfl⟩ := List.mem_map.1 hn
  have := len_sub (l' := os.map ObjV.num) (h.pre_nodup k x.num (h.top x hx) hk) fun m hm => h.blw_mem hn ((h.mem_pre k x.num m (h.top x hx) hk).1 hm)
  simpa using this
theorem Wf0.blw_root (h : Wf0 os last) : ∀ x ∈ os, Blw os 1 x.num := h.ind (P := fun m => Blw os 1 m) .refl fun x hx h1 ih => .step x hx h1 ih
theorem Wf0.mem_all (h : Wf0 os last) {k : Nat} (hk : last < 1 + k) {m : Int} : m ∈ pre os k 1 ↔ m ∈ os.map ObjV.num := by
  rw [h.mem_pre k 1 m h.last_pos hk]
  constructor
  · obtain ⟨x, hx, h1, -⟩ := h.one
    exact fun hb => h.blw_mem (List.mem_map.2 ⟨x, hx, h1⟩) hb
  · intro hm
    obtain ⟨x, hx, rfl⟩ := List.mem_map.1 hm
    exact h.blw_root x hx
theorem Wf0.all_len (h : Wf0 os last) {k : Nat} (hk : last < 1 + k) : (pre os k 1).length = os.length := by
  have h1 := len_sub (h.pre_nodup k 1 h.last_pos hk) fun m hm => (h.mem_all hk).1 hm
  have hnd : (os.map ObjV.num).Nodup := List.pairwise_map.2 (h.sorted.imp fun {a b} hab e => by omega)
  have h2 := len_sub hnd fun m hm => (h.mem_all hk).2 hm
  simp only [List.length_map] at h1 h2
  omega
theorem flat_split {α β : Type} {f : α → List β} {m : β} : ∀ {l : List α} {p s : List β}, l.flatMap f = p ++ m :: s → ∃ l1 c l2 p' s', l = l1 ++ c :: l2 ∧ f c = p' ++ m :: s' ∧ p = l1.flatMap f ++ p'
  | [], p, s, h => by simp at h
  | a :: l, p, s, h => by
    rw [List.flatMap_cons, List.append_eq_append_iff] at h
    rcases h with ⟨q, h1, h2⟩ | ⟨q, h1, h2⟩
    · obtain ⟨l1, c, l2, p', s', rfl, h3, h4⟩ := flat_split h2
      exact ⟨a :: l1, c, l2, p', s', rfl, h3, by rw [h1, h4, List.flatMap_cons, List.append_assoc]⟩
    · cases q with
      | nil =>
        simp only [List.append_nil, List.nil_append] at h1 h2
        obtain ⟨l1, c, l2, p', s', rfl, h3, h4⟩ := flat_split (p := []) (s := s) (by rw [List.nil_append]; exact h2.symm)
        refine ⟨a :: l1, c, l2, p', s', rfl, h3, ?_⟩
        rw [List.flatMap_cons, List.append_assoc, ← h4, List.append_nil, h1]
      | cons y q =>
        simp only [List.cons_append, List.cons.injEq] at h2
        obtain ⟨rfl, h2⟩ := h2
        exact ⟨[], a, l, p, q, rfl, h1, by simp⟩
theorem Wf0.after (h : Wf0 os last) : ∀ (k : Nat) (n : Int) {x : ObjV} {p s : List Int}, x ∈ os → x.num ≠ n → pre os k n = p ++ x.num :: s → x.dir ∈ p
  | 0, n, x, p, s, hx, hn, e => by simp [pre] at e
  | k + 1, n, x, p, s, hx, hn, e => by
    cases p with
    | nil => simp only [pre, List.nil_append, List.cons.injEq] at e; exact absurd e.1.symm hn
    | cons q p =>
      simp only [pre, List.cons_append, List.cons.injEq] at e
      obtain ⟨rfl, e⟩ := e
      obtain ⟨l1, c, l2, p', s', e1, e2, rfl⟩ := flat_split e
      have hc : c ∈ chl os n := by rw [e1]; simp
      obtain ⟨g1, g2, g3⟩ := mem_chl.1 hc
      by_cases hxc : x.num = c.num
      · have := h.inj hx g1 hxc
        subst this
        rw [g2]; simp
      · have := h.after k c.num hx hxc e2
        simp [this]
end
end Go.Proofs.YtklepphkbbjbjaaDoor
namespace Go.Proofs.YtklepphkbbjbjaaDoor
set_option linter.unusedVariables false
set_option linter.unusedSimpArgs false
set_option maxRecDepth 20000
set_option maxHeartbeats 4000000
open Go
structure Pl where
  t : Nat
  nid : Nat
  did : Nat
  phi : Int → Nat
def dirs (os : List ObjV) : List ObjV := os.filter fun x => x.kind == 2
def ObjV.node (x : ObjV) : NodeV := ⟨x.dir, x.name, x.kind, x.label⟩
def ObjV.ent (x : ObjV) : DVal := .tup [.int .i64 x.num, x.node.d]
def kidE (x : ObjV) : DVal := .tup [.str x.name, .int .i64 x.num]
def dirE (phi : Int → Nat) (x : ObjV) : DVal := .tup [.int .i64 x.num, .map (phi x.num)]
structure TreeAt (σ : Sto) (p : Pl) (os : List ObjV) (last : Int) : Prop where
  tl : p.t < σ.nobj
  nl : p.nid < σ.nobj
  dl : p.did < σ.nobj
  fl : ∀ x ∈ dirs os, p.phi x.num < σ.nobj
  tn : p.t ≠ p.nid
  td : p.t ≠ p.did
  nd : p.nid ≠ p.did
  fn : ∀ x ∈ dirs os, p.phi x.num ≠ p.t ∧ p.phi x.num ≠ p.nid ∧ p.phi x.num ≠ p.did
  ff : ∀ x ∈ dirs os, ∀ y ∈ dirs os, p.phi x.num = p.phi y.num → x.num = y.num
  obj : σ.obj p.t = .agg [.map p.nid, .map p.did, .int .i64 (last + 1)]
  nodes : σ.obj p.nid = .tup (os.map ObjV.ent)
  names : σ.obj p.did = .tup ((dirs os).map (dirE p.phi))
  inner : ∀ x ∈ dirs os, σ.obj (p.phi x.num) = .tup ((kids os x.num).map kidE)
def zeroN : NodeV := ⟨0, [], 0, 0⟩
def getN (os : List ObjV) (k : Int) : NodeV := match fo os k with
  | some (_, x) => x.node
  | none => zeroN
def hasN (os : List ObjV) (k : Int) : Bool := (fo os k).isSome
def dirD (os : List ObjV) (p : Pl) (n : Int) : DVal := if (dirs os).any (fun x => x.num == n) then .map (p.phi n) else .nilm
theorem mem_dirs {os : List ObjV} {x : ObjV} : x ∈ dirs os ↔ x ∈ os ∧ x.kind = 2 := by simp [dirs]
structure Kp (σ σ' : Sto) : Prop where
  size : σ.nobj ≤ σ'.nobj
  obj : ∀ i, i < σ.nobj → σ'.obj i = σ.obj i
theorem Kp.refl (σ : Sto) : Kp σ σ := ⟨Nat.le_refl _, fun _ _ => rfl⟩
theorem Kp.trans {σ σ' σ'' : Sto} (h : Kp σ σ') (h' : Kp σ' σ'') : Kp σ σ'' := ⟨Nat.le_trans h.size h'.size, fun i hi => (h'.obj i (Nat.lt_of_lt_of_le hi h.size)).trans (h.obj i hi)⟩
section
variable {σ : Sto} {p : Pl} {os : List ObjV} {last : Int}
theorem TreeAt.kp {σ' : Sto} (h : TreeAt σ p os last) (hk : Kp σ σ') : TreeAt σ' p os last where
  tl := Nat.lt_of_lt_of_le h.tl hk.size
  nl := Nat.lt_of_lt_of_le h.nl hk.size
  dl := Nat.lt_of_lt_of_le h.dl hk.size
  fl x hx := Nat.lt_of_lt_of_le (h.fl x hx) hk.size
  tn := h.tn
  td := h.td
  nd := h.nd
  fn := h.fn
  ff := h.ff
  obj := (hk.obj _ h.tl).trans h.obj
  nodes := (hk.obj _ h.nl).trans h.nodes
  names := (hk.obj _ h.dl).trans h.names
  inner x hx := (hk.obj _ (h.fl x hx)).trans (h.inner x hx)
variable (h : TreeAt σ p os last)
include h
theorem TreeAt.ld0 : ldOSem σ none [.obj p.t 0] = some (.map p.nid, σ) := by rw [ld_obj _ h.obj h.tl]; rfl
theorem TreeAt.ld1 : ldOSem σ none [.obj p.t 1] = some (.map p.did, σ) := by rw [ld_obj _ h.obj h.tl]; rfl
theorem TreeAt.ld2 : ldOSem σ none [.obj p.t 2] = some (.int .i64 (last + 1), σ) := by rw [ld_obj _ h.obj h.tl]; rfl
theorem TreeAt.lookN (ok : Bool) (k : Int) : lookSem false [.i .i64] (.agg [.int .i64 0, .str [], .int .i64 0, .int .i64 0]) ok σ [.map p.nid, .int .i64 k] =
    some (if ok then .tup [(getN os k).d, .bool (hasN os k)] else (getN os k).d, σ) := by
  rw [look_I (l := os) (key := ObjV.num) (val := fun x => x.node.d) h.nl h.nodes k]
  unfold getN hasN fo
  cases firstAt (fun x => k == x.num) os 0 with
  | none => cases ok <;> rfl
  | some r => cases ok <;> rfl
theorem TreeAt.lenN : lenMSem σ [.map p.nid] = some (.int .i64 os.length, σ) := len_I (l := os) (key := ObjV.num) (val := fun x => x.node.d) h.nl h.nodes
theorem TreeAt.lookD (k : Int) : lookSem false [.i .i64] .nilm false σ [.map p.did, .int .i64 k] = some (dirD os p k, σ) := by
  rw [look_I (l := dirs os) (key := ObjV.num) (val := fun x => .map (p.phi x.num)) h.dl h.names k]
  unfold dirD
  cases hf : firstAt (fun x => k == x.num) (dirs os) 0 with
  | none =>
    have := firstAt_none hf
    rw [if_neg]
    · rfl
    · simp only [List.any_eq_true, not_exists, not_and]
      intro x hx e
      have h1 := this x hx
      have h2 : x.num = k := by simpa using e
      simp [h2] at h1
  | some r =>
    obtain ⟨i, x⟩ := r
    obtain ⟨m, -, h2, h3, -⟩ := firstAt_some hf
    have h3 : k = x.num := by simpa using h3
    rw [if_pos (List.any_eq_true.2 ⟨x, List.mem_of_getElem? h2, by simp [h3]⟩), h3]
    rfl
theorem TreeAt.lookK (hw : Wf0 os last) (zero : DVal) (ok : Bool) (n : Int) (q : Bs) : lookSem false [.s] zero ok σ [dirD os p n, .str q] = some (lookRes zero ok ((kid os n q).map fun r => (r.1, .int .i64 r.2.num)), σ) := by
  unfold dirD
  split
  · rename_i ha
    obtain ⟨x, hx, e⟩ := List.any_eq_true.1 ha
    have e : x.num = n := by simpa using e
    subst e
    exact look_S (l := kids os x.num) (key := ObjV.name) (val := fun y => .int .i64 y.num) (h.fl x hx) (h.inner x hx) q
  · rename_i ha
    have hk : kids os n = [] := kids_none hw fun x hx e hk => ha (List.any_eq_true.2 ⟨x, mem_dirs.2 ⟨hx, hk⟩, by simpa using e⟩)
    unfold kid
    rw [hk]
    simp [lookSem, key_S, firstAt, lookRes]
theorem TreeAt.lenK (hw : Wf0 os last) (n : Int) : lenMSem σ [dirD os p n] = some (.int .i64 (kids os n).length, σ) := by
  unfold dirD
  split
  · rename_i ha
    obtain ⟨x, hx, e⟩ := List.any_eq_true.1 ha
    have e : x.num = n := by simpa using e
    subst e
    exact len_S (l := kids os x.num) (key := ObjV.name) (val := fun y => .int .i64 y.num) (h.fl x hx) (h.inner x hx)
  · rename_i ha
    have hk : kids os n = [] := kids_none hw fun x hx e hk => ha (List.any_eq_true.2 ⟨x, mem_dirs.2 ⟨hx, hk⟩, by simpa using e⟩)
    rw [hk]
    rfl
theorem d30 (C : CallP) (I : CallI) (n : Nat) : D30 C I n (.obj p.t 0) σ = some (.done (.bool true) σ) := by
  have h0 := h.ld0
  simp -implicitDefEqProofs [D30, h0]
theorem e30 {n : Nat} (hn : 1 ≤ n) : ciJ PR n 30 [.obj p.t 0] σ = some (.bool true, σ) := by
  obtain ⟨n, rfl⟩ : ∃ m, n = m + 1 := ⟨n - 1, by omega⟩
  rw [v30, d30 h]
  rfl
theorem e31 {n : Nat} (hn : 2 ≤ n) (k : Int) : ciJ PR n 31 [.obj p.t 0, .int .i64 k] σ = some (.tup [(getN os k).d, .bool (hasN os k)], σ) := by
  obtain ⟨n, rfl⟩ : ∃ m, n = m + 1 := ⟨n - 1, by omega⟩
  have h0 := h.ld0
  have h1 := e30 h (n := n) (by omega)
  have h2 := h.lookN true k
  simp only [if_true] at h2
  rw [v31]
  generalize getN os k = N at *
  simp -implicitDefEqProofs [D31, h0, h1, h2, -jwrSem.eq_1, -fldSem.eq_1]
theorem e18 {n : Nat} (hn : 3 ≤ n) (k : Int) : ciJ PR n 18 [.obj p.t 0, .int .i64 k] σ = some (.tup [.int .i64 (getN os k).kind, .bool (hasN os k)], σ) := by
  obtain ⟨n, rfl⟩ : ∃ m, n = m + 1 := ⟨n - 1, by omega⟩
  have h1 := e31 h (n := n) (by omega) k
  rw [v18]
  generalize getN os k = N at *
  simp -implicitDefEqProofs [D18, h1, -jwrSem.eq_1, -fldSem.eq_1]
theorem e28 {n : Nat} (hn : 3 ≤ n) (k : Int) : ciJ PR n 28 [.obj p.t 0, .int .i64 k] σ = some (.tup [.int .i64 (getN os k).label, .bool (hasN os k)], σ) := by
  obtain ⟨n, rfl⟩ : ∃ m, n = m + 1 := ⟨n - 1, by omega⟩
  have h1 := e31 h (n := n) (by omega) k
  rw [v28]
  generalize getN os k = N at *
  simp -implicitDefEqProofs [D28, h1, -jwrSem.eq_1, -fldSem.eq_1]
theorem e24 {n : Nat} (hn : 3 ≤ n) (k : Int) : ciJ PR n 24 [.obj p.t 0, .int .i64 k] σ = some (.tup [.int .i64 (getN os k).up, .bool (hasN os k)], σ) := by
  obtain ⟨n, rfl⟩ : ∃ m, n = m + 1 := ⟨n - 1, by omega⟩
  have h1 := e31 h (n := n) (by omega) k
  rw [v24]
  generalize getN os k = N at *
  simp -implicitDefEqProofs [D24, h1, -jwrSem.eq_1, -fldSem.eq_1]
theorem e13 {n : Nat} (hn : 2 ≤ n) : ciJ PR n 13 [.obj p.t 0] σ = some (.int .i64 os.length, σ) := by
  obtain ⟨n, rfl⟩ : ∃ m, n = m + 1 := ⟨n - 1, by omega⟩
  have h0 := h.ld0
  have h1 := e30 h (n := n) (by omega)
  have h2 := h.lenN
  rw [v13]
  simp -implicitDefEqProofs [D13, h0, h1, h2]
theorem l33 {n : Nat} (hw : Wf os last) : ∀ x ∈ os, ∀ (m : Nat) (s : Bs), x.num.toNat < m → s.length + 40 * x.num.toNat ≤ 1000000000 →
    iterJ 0 (L33_0 (cpJ PR n) (ciJ PR n) n (.obj p.t 0)) m [.str s, .int .i64 x.num] σ = some (.done (.str (path os x.num ++ s)) σ) := by
  have h0 := h.ld0
  refine hw.toWf0.ind (P := fun k => ∀ (m : Nat) (s : Bs), k.toNat < m → s.length + 40 * k.toNat ≤ 1000000000 →
    iterJ 0 (L33_0 (cpJ PR n) (ciJ PR n) n (.obj p.t 0)) m [.str s, .int .i64 k] σ = some (.done (.str (path os k ++ s)) σ)) (fun m s hm hs => ?_) fun x hx h1 ih m s hm hs => ?_
  · obtain ⟨m, rfl⟩ : ∃ q, m = q + 1 := ⟨m - 1, by omega⟩
    rw [path_root]
    refine iterJ_done ?_
    simp -implicitDefEqProofs [L33_0, B33_0]
  · obtain ⟨m, rfl⟩ : ∃ q, m = q + 1 := ⟨m - 1, by omega⟩
    obtain ⟨d, hd, e1, -, h2, h3⟩ := hw.toWf0.up hx h1
    have hl := h.lookN false x.num
    obtain ⟨i, hf, -⟩ := hw.toWf0.fo hx
    have hg : getN os x.num = x.node := by unfold getN; rw [hf]
    rw [hg] at hl
    simp only [Bool.false_eq_true, if_false] at hl
    have hnm : x.name.length ≤ 32 := by
      have := hw.name x hx h1
      simp only [nameV, Bool.and_eq_true, decide_eq_true_eq] at this
      exact this.1.2
    have a1 : binStr .add [47] x.name = some (.str (47 :: x.name)) := addS (by simp; omega)
    have a2 : binStr .add (47 :: x.name) s = some (.str (47 :: (x.name ++ s))) := addS (x := 47 :: x.name) (by simp; omega)
    have h1' : (x.num == 1) = false := by simpa using h1
    rw [hw.toWf0.path_step hx h1, List.append_assoc, List.cons_append]
    have n0 : NodeV.name x.node = x.name := rfl
    have u0 : NodeV.up x.node = x.dir := rfl
    rw [iterJ_next' (vs' := [.str (47 :: (x.name ++ s)), .int .i64 x.dir]) (σ' := σ) ?_]
    · exact ih m _ (by omega) (by simp; omega)
    · generalize x.node = N at *
      simp -implicitDefEqProofs [L33_0, B33_0, h0, h1, h1', hl, n0, u0, a1, a2, -binStr.eq_1, -jwrSem.eq_1, -fldSem.eq_1]
theorem e33 {n : Nat} (hw : Wf os last) (hb : last ≤ 1000) (hn : 1010 ≤ n) {x : ObjV} (hx : x ∈ os) : ciJ PR n 33 [.obj p.t 0, .int .i64 x.num] σ = some (.str (path os x.num), σ) := by
  obtain ⟨n, rfl⟩ : ∃ m, n = m + 1 := ⟨n - 1, by omega⟩
  have ht := hw.top x hx
  have hl := l33 h (n := n) hw x hx n [] (by omega) (by simp; omega)
  rw [v33]
  simp only [D33, hl, List.append_nil]
  rfl
def pathA (os : List ObjV) (k : Int) : Bs × Bool := if hasN os k then (rpath os k, true) else ([], false)
theorem e25 {n : Nat} (hw : Wf os last) (hb : last ≤ 1000) (hn : 1011 ≤ n) (k : Int) : ciJ PR n 25 [.obj p.t 0, .int .i64 k] σ = some (.tup [.str (pathA os k).1, .bool (pathA os k).2], σ) := by
  obtain ⟨n, rfl⟩ : ∃ m, n = m + 1 := ⟨n - 1, by omega⟩
  have h1 := e31 h (n := n) (by omega) k
  rw [v25]
  unfold pathA
  cases hf : fo os k with
  | none =>
    have hk : hasN os k = false := by unfold hasN; rw [hf]; rfl
    rw [hk] at h1 ⊢
    generalize getN os k = N at *
    simp -implicitDefEqProofs [D25, h1, -jwrSem.eq_1, -fldSem.eq_1]
  | some r =>
    obtain ⟨i, x⟩ := r
    have hk : hasN os k = true := by unfold hasN; rw [hf]; rfl
    obtain ⟨-, hx, rfl⟩ := fo_some hf
    have h2 := e33 h (n := n) hw hb (by omega) hx
    rw [hk] at h1 ⊢
    unfold rpath
    by_cases h3 : x.num = 1
    · generalize getN os x.num = N at *
      rw [if_pos rfl, if_pos h3]
      have h3' : (x.num == 1) = true := by simpa using h3
      rw [h3] at *
      simp -implicitDefEqProofs [D25, h1, h3, h3', -jwrSem.eq_1, -fldSem.eq_1]
    · generalize getN os x.num = N at *
      have h3' : (x.num == 1) = false := by simpa using h3
      rw [if_pos rfl, if_neg h3]
      simp -implicitDefEqProofs [D25, h1, h2, h3, h3', -jwrSem.eq_1, -fldSem.eq_1]
def fnd (os : List ObjV) : Int → List Bs → Option Int
  | n, [] => some n
  | n, q :: r => match kid os n q with
    | some (_, x) => fnd os x.num r
    | none => none
def findA (os : List ObjV) : Bs → Int × Bool
  | [] => (0, false)
  | b :: t => if b = 47 then (if t = [] then (1, true) else match fnd os 1 (parts 47 t) with
    | some m => (m, true)
    | none => (0, false)) else (0, false)
theorem l16 {n : Nat} (hw : Wf0 os last) (z : Zs) (l : List Bs) (hl : l.length < 100000000) (u v : DVal) : ∀ (k i m : Nat) (d : Int), i + k = l.length → k < m →
    iterJ 0 (L16_0 (cpJ PR n) (ciJ PR n) n (.obj p.t 0) (strsD z l) (.int .i64 l.length)) m [.int .i64 i, .int .i64 d, u, v] σ =
      some (.done (match fnd os d (l.drop i) with | some r => .tup [.int .i64 r, .bool true] | none => .tup [.int .i64 0, .bool false]) σ) := by
  intro k
  have h1 := h.ld1
  induction k with
  | zero =>
    intro i m d hi hm
    obtain ⟨m, rfl⟩ : ∃ q, m = q + 1 := ⟨m - 1, by omega⟩
    have hi' : ¬ ((i : Int) < l.length) := by omega
    rw [List.drop_eq_nil_of_le (by omega)]
    refine iterJ_done ?_
    simp -implicitDefEqProofs [L16_0, B16_0, hi', fnd]
  | succ k ih =>
    intro i m d hi hm
    obtain ⟨m, rfl⟩ : ∃ q, m = q + 1 := ⟨m - 1, by omega⟩
    have hi' : ((i : Int) < l.length) := by omega
    obtain ⟨q, hq⟩ := get_some (by omega : i < l.length)
    have hw2 := wrap_succ (i := i) (by omega)
    simp only [Int.natCast_add, Int.natCast_one] at hw2
    have h2 := h.lookD d
    have h3 := h.lookK hw (.int .i64 0) true d q
    rw [drop_get hq, fnd]
    cases hk : kid os d q with
    | none =>
      rw [hk] at h3
      simp only [Option.map_none, lookRes, if_true] at h3
      refine iterJ_done ?_
      generalize dirD os p d = DD at *
      simp -implicitDefEqProofs [L16_0, B16_0, hi', hq, h1, h2, h3]
    | some r =>
      obtain ⟨j, x⟩ := r
      rw [hk] at h3
      simp only [Option.map_some, lookRes, if_true] at h3
      rw [iterJ_next' (vs' := [.int .i64 ((i + 1 : Nat) : Int), .int .i64 x.num, u, v]) (σ' := σ) ?_, ih (i + 1) m x.num (by omega) (by omega)]
      generalize dirD os p d = DD at *
      simp -implicitDefEqProofs [L16_0, B16_0, hi', hq, h1, h2, h3, hw2]
theorem e16 {n : Nat} (hw : Wf0 os last) (hn : 100000 ≤ n) (s : Bs) (hs : s.length ≤ 90000) : ciJ PR n 16 [.obj p.t 0, .str s] σ = some (.tup [.int .i64 (findA os s).1, .bool (findA os s).2], σ) := by
  obtain ⟨n, rfl⟩ : ∃ m, n = m + 1 := ⟨n - 1, by omega⟩
  have h1 := e30 h (n := n) (by omega)
  rw [v16]
  cases s with
  | nil => simp -implicitDefEqProofs [D16, h1, findA]
  | cons b t =>
    have hb := u8_47 b
    simp only [List.length_cons] at hs
    by_cases h47 : b = 47
    · subst h47
      by_cases ht : t = []
      · subst ht
        simp -implicitDefEqProofs [D16, h1, findA]
      · have ht' : (t == []) = false := by simpa using ht
        have hp := e37 (n := n) (by omega) t (by omega)
        have hlen := (parts_len 47 t).1
        have hl := l16 h (n := n) hw .full (parts 47 t) (by omega) (.bool false) (.int .i64 0) (parts 47 t).length 0 n 1 (by omega) (by omega)
        simp only [Int.natCast_zero, List.drop_zero] at hl
        have hlt : (1 : Int) ≤ (t.length : Int) + 1 := by omega
        have hls : lenSlSem [strsD .full (parts 47 t)] = some (.int .i64 (parts 47 t).length) := by simp
        have hst : (strsD .full (parts 47 t)).stale = strsD .full (parts 47 t) := by simp
        generalize strsD .full (parts 47 t) = SD at *
        simp only [findA, if_true, ht, if_false]
        cases hf : fnd os 1 (parts 47 t) with
        | none =>
          rw [hf] at hl
          simp -implicitDefEqProofs [D16, h1, hp, hls, hst, hl, ht, ht', hlt]
        | some r =>
          rw [hf] at hl
          simp -implicitDefEqProofs [D16, h1, hp, hls, hst, hl, ht, ht', hlt]
    · have hb2 : (b == 47) = false := by simpa using h47
      rw [hb2] at hb
      have hb3 : ¬ (b.toNat : Int) = 47 := beq_eq_false_iff_ne.1 hb
      simp -implicitDefEqProofs [D16, h1, findA, hb, hb3, h47, hb2]
end
end Go.Proofs.YtklepphkbbjbjaaDoor
namespace Go.Proofs.YtklepphkbbjbjaaDoor
set_option linter.unusedVariables false
set_option linter.unusedSimpArgs false
set_option maxRecDepth 20000
set_option maxHeartbeats 4000000
open Go
def numR (l : List ObjV) : List (List DVal) := l.map fun x => [DVal.int .i64 x.num]
def colO (σ : Sto) (m : Nat) (K D R : List ObjV) (cur : DVal) : Nat → DVal := fun i =>
  if i < σ.nobj then (if i = m then .iface σ.nobj .undef else σ.obj i)
  else if i = σ.nobj then .func m [cur, .tup (R.map kidE), .tup (K.map kidE)]
  else if i < σ.nobj + D.length then .undef
  else if i = σ.nobj + D.length then .agg (D.map fun x => .str x.name)
  else σ.obj i
def curS (σ : Sto) (D : List ObjV) : DVal := match D with
  | [] => .nils
  | _ :: _ => .mslice 1 (σ.nobj + D.length) 0 D.length none
structure StC (σ : Sto) (m : Nat) (K : List ObjV) (τ : Sto) (D R : List ObjV) (cur : DVal) : Prop where
  nobj : τ.nobj = σ.nobj + 1 + D.length
  ntok : τ.ntok = σ.ntok
  fr : τ.fr = σ.fr
  obj : τ.obj = colO σ m K D R cur
def finO (σ : Sto) (n : Nat) (s : DVal) : Nat → DVal := fun i =>
  if i < σ.nobj then σ.obj i else if i < σ.nobj + n then .undef else if i = σ.nobj + n then s else σ.obj i
def srtD (l : List ObjV) : DVal := match l with
  | [] => .undef
  | x :: l => .agg ((x :: l).map fun x => .str x.name)
def finS (σ : Sto) (l : List ObjV) : Sto := { σ with nobj := σ.nobj + 1 + l.length, obj := finO σ l.length (srtD l) }
theorem kp_fin (σ : Sto) (l : List ObjV) (o : Nat → Nat) : Kp σ { finS σ l with ora := o } := ⟨by show σ.nobj ≤ σ.nobj + 1 + l.length; omega, fun i hi => by show finO σ _ _ i = _; simp [finO, hi]⟩
theorem apd_obj (σ : Sto) (sz : Nat) (es : List (List DVal)) : (apd σ sz es).2.obj = σ.obj ∧ (apd σ sz es).2.nobj = σ.nobj ∧ (apd σ sz es).2.ora = σ.ora := by cases es <;> exact ⟨rfl, rfl, rfl⟩
theorem kp_apd (σ : Sto) (sz : Nat) (es : List (List DVal)) : Kp σ (apd σ sz es).2 := by
  obtain ⟨h1, h2, -⟩ := apd_obj σ sz es
  exact ⟨by rw [h2]; exact Nat.le_refl _, fun i _ => by rw [h1]⟩
theorem app_col {σ τ : Sto} {m : Nat} {K D R : List ObjV} {cur : DVal} (x : ObjV) (h : StC σ m K τ D R cur) (hl : D.length ≤ 1000000) :
    ∃ τ', appXSem 1 τ [curS σ D, .slice false 1 1 [[.str x.name]]] = some (curS σ (D ++ [x]), τ') ∧ StC σ m K τ' (D ++ [x]) R cur ∧ τ'.ora = τ.ora := by
  cases D with
  | nil =>
    refine ⟨{ τ with nobj := τ.nobj + 1, obj := upd τ.obj τ.nobj (.agg [.str x.name]) }, ?_, ⟨?_, h.ntok, h.fr, ?_⟩, rfl⟩
    · have := h.nobj
      simp only [List.length_nil, Nat.add_zero] at this
      simp [curS, appXSem, appMSem, elemsM, elemsOf, DVal.szOk, tightOf, maxAppend, this]
    · show τ.nobj + 1 = _; rw [h.nobj]; simp
    · show upd τ.obj τ.nobj _ = _
      rw [h.obj, h.nobj]
      funext i
      simp only [upd, colO, List.length_nil, List.nil_append, List.length_cons, List.map_cons, List.map_nil, Nat.add_zero, Nat.zero_add]
      by_cases h1 : i < σ.nobj
      · rw [if_neg (by omega), if_pos h1, if_pos h1]
      · by_cases h2 : i = σ.nobj
        · subst h2; simp
        · by_cases h3 : i = σ.nobj + 1
          · rw [if_pos h3, if_neg h1, if_neg h2, if_neg (by omega), if_pos h3]
          · rw [if_neg h3, if_neg h1, if_neg h2, if_neg (by omega), if_neg (by omega), if_neg h1, if_neg h2, if_neg (by omega), if_neg h3]
  | cons d D =>
    have hid : σ.nobj + (d :: D).length < τ.nobj := by rw [h.nobj]; omega
    have hob : τ.obj (σ.nobj + (d :: D).length) = .agg ((d :: D).map fun x => .str x.name) := by
      rw [h.obj]
      simp [colO]
      intro h9; omega
    refine ⟨{ τ with nobj := τ.nobj + 1, obj := upd (upd τ.obj (σ.nobj + (d :: D).length) .undef) τ.nobj (.agg (((d :: D).map fun x => .str x.name) ++ [.str x.name])) }, ?_, ⟨?_, h.ntok, h.fr, ?_⟩, rfl⟩
    · have h3 : D.length + 1 + 1 ≤ maxAppend := by simp only [List.length_cons] at hl; simp [maxAppend]; omega
      simp only [List.length_cons] at hob hid
      have hn := h.nobj
      simp only [List.length_cons] at hn
      simp [curS, appXSem, elemsOf, DVal.szOk, hob, hid, h3, hn]
      omega
    · show τ.nobj + 1 = _; rw [h.nobj]; simp; omega
    · show upd (upd τ.obj _ _) τ.nobj _ = _
      rw [h.obj, h.nobj]
      funext i
      have e1 : (d :: D ++ [x]).length = (d :: D).length + 1 := by simp
      have e2 : (((d :: D).map fun x => DVal.str x.name) ++ [DVal.str x.name]) = ((d :: D) ++ [x]).map fun x => DVal.str x.name := by simp
      have e3 : 0 < (d :: D).length := by simp
      rw [e2]
      simp only [upd, colO, e1]
      generalize (d :: D).length = L at *
      by_cases h1 : i < σ.nobj
      · rw [if_neg (by omega), if_neg (by omega), if_pos h1, if_pos h1]
      · by_cases h2 : i = σ.nobj
        · rw [if_neg (by omega), if_neg (by omega), if_neg h1, if_pos h2, if_neg h1, if_pos h2]
        · by_cases h3 : i = σ.nobj + 1 + L
          · rw [if_pos h3, if_neg h1, if_neg h2, if_neg (by omega), if_pos (by omega)]
          · by_cases h4 : i = σ.nobj + L
            · rw [if_neg h3, if_pos h4, if_neg h1, if_neg h2, if_pos (by omega)]
            · by_cases h5 : i < σ.nobj + L
              · rw [if_neg h3, if_neg h4, if_neg h1, if_neg h2, if_pos h5, if_neg h1, if_neg h2, if_pos (by omega)]
              · rw [if_neg h3, if_neg h4, if_neg h1, if_neg h2, if_neg h5, if_neg h4, if_neg h1, if_neg h2, if_neg (by omega), if_neg (by omega)]
theorem strCells_names (l : List ObjV) : strCells (l.map fun x => .str x.name) = some (l.map ObjV.name) := by
  induction l with
  | nil => rfl
  | cons x l ih => simp [strCells, ih]
section
variable {C : CallP} {I : CallI} {n : Nat} {σ : Sto} {p : Pl} {os : List ObjV} {last : Int}
theorem l21_0 (hw : Wf os last) {τ : Sto} (h : TreeAt τ p os last) {k : Int} {l : List ObjV} (hl : l = chl os k) {a : Nat} (ha : a < τ.nobj) (ho : τ.obj a = .agg (l.map fun x => .str x.name)) (cap : Option Nat) : ∀ (r i m : Nat), i + r = l.length → r < m →
    iterJ 1 (L21_0 C I n (.obj p.t 0) (.int .i64 k) (.mslice 1 a 0 l.length cap) (.int .i64 l.length)) m [.int .i64 i, (apd τ 1 (numR (l.take i))).1] (apd τ 1 (numR (l.take i))).2 =
      some (.done (apd τ 1 (numR l)).1 (apd τ 1 (numR l)).2) := by
  intro r
  induction r with
  | zero =>
    intro i m hi hm
    obtain ⟨m, rfl⟩ : ∃ q, m = q + 1 := ⟨m - 1, by omega⟩
    have hi' : ¬ ((i : Int) < l.length) := by omega
    rw [List.take_of_length_le (by omega)]
    refine iterJ_done ?_
    simp -implicitDefEqProofs [L21_0, B21_0, hi']
  | succ r ih =>
    intro i m hi hm
    obtain ⟨m, rfl⟩ : ∃ q, m = q + 1 := ⟨m - 1, by omega⟩
    have hi' : ((i : Int) < l.length) := by omega
    have hlt : i < l.length := by omega
    obtain ⟨x, hx⟩ := get_some hlt
    have hlen : l.length ≤ 256 := by
      have h1 := (chl_perm os k).length_eq
      have h2 : (kids os k).length ≤ os.length := List.length_filter_le _ _
      have h3 := hw.len
      rw [hl]; omega
    have hw2 := wrap_succ (i := i) (by omega)
    simp only [Int.natCast_add, Int.natCast_one] at hw2
    have hxk : x ∈ kids os k := (chl_perm os k).mem_iff.1 (by rw [← hl]; exact List.mem_of_getElem? hx)
    obtain ⟨o1, o2, -⟩ := apd_obj τ 1 (numR (l.take i))
    have hT : TreeAt (apd τ 1 (numR (l.take i))).2 p os last := h.kp (kp_apd _ _ _)
    have hid := idx_ms (k := .i64) (id := a) (cap := cap) hlt
    have hld : ldOSem (apd τ 1 (numR (l.take i))).2 none [.obj a i] = some (.str x.name, (apd τ 1 (numR (l.take i))).2) := by
      rw [ld_obj (cs := l.map fun x => .str x.name) none (by rw [o1]; exact ho) (by rw [o2]; exact ha)]
      simp [readCells, hx]
    have h1 := hT.ld1
    have h2 := hT.lookD k
    have h3 := hT.lookK hw.toWf0 (.int .i64 0) false k x.name
    obtain ⟨j, hj⟩ := hw.toWf0.kid hxk
    rw [hj] at h3
    simp only [Option.map_some, lookRes, Bool.false_eq_true, if_false] at h3
    have happ := app_apd (σ := τ) (sz := 1) (own := 1) (es := numR (l.take i)) (r := [.int .i64 x.num]) (by simp [numR]; omega)
    have he : numR (l.take i) ++ [[.int .i64 x.num]] = numR (l.take (i + 1)) := by rw [take_get hx]; simp [numR]
    rw [he] at happ
    generalize dirD os p k = DD at *
    rw [iterJ_next' (vs' := [.int .i64 ((i + 1 : Nat) : Int), (apd τ 1 (numR (l.take (i + 1)))).1]) (σ' := (apd τ 1 (numR (l.take (i + 1)))).2) ?_, ih (i + 1) m (by omega) (by omega)]
    generalize (apd τ 1 (numR (l.take (i + 1)))) = A2 at *
    generalize (apd τ 1 (numR (l.take i))) = A1 at *
    simp -implicitDefEqProofs [L21_0, B21_0, hi', hid, hld, h1, h2, h3, happ, hw2]
theorem l21_1 (hw : Wf os last) (hn : 600 ≤ n) (h : TreeAt σ p os last) {k : Int} {m : Nat} (hm : m < σ.nobj) (hmo : σ.obj m = .tup ((kids os k).map kidE)) (hI40 : ∀ xs τ, I 40 xs τ = sortSem xs τ) : ∀ (r q : Nat) (D R : List ObjV) (cur : DVal) (τ : Sto), R.length = r → r < q → StC σ m (kids os k) τ D R cur → (D ++ R).Perm (kids os k) →
    ∃ o, iterJ 0 (L21_1 C I n (.obj p.t 0) (.int .i64 k) (.obj σ.nobj 0)) q [curS σ D] τ = some (.done (apd { finS σ (chl os k) with ora := o } 1 (numR (chl os k))).1 (apd { finS σ (chl os k) with ora := o } 1 (numR (chl os k))).2) := by
  have hcl : (chl os k).length = (kids os k).length := (chl_perm os k).length_eq
  have hkl : (kids os k).length ≤ 256 := Nat.le_trans (List.length_filter_le _ _) hw.len
  intro r
  induction r with
  | zero =>
    intro q D R cur τ hR hq hS hp
    obtain ⟨q, rfl⟩ : ∃ j, q = j + 1 := ⟨q - 1, by omega⟩
    obtain rfl := List.eq_nil_of_length_eq_zero hR
    rw [List.append_nil] at hp
    have hdl := hp.length_eq
    have hlt : σ.nobj < τ.nobj := by rw [hS.nobj]; omega
    have hit : τ.obj σ.nobj = .func m [cur, .tup [], .tup ((kids os k).map kidE)] := by rw [hS.obj]; simp [colO]
    have hnx := next_nil hlt hit
    refine ⟨τ.ora, ?_⟩
    generalize hτ1 : ({ τ with obj := upd (upd τ.obj σ.nobj .undef) m (.tup ((kids os k).map kidE)) } : Sto) = τ1 at hnx
    have n1 : τ1.nobj = τ.nobj := by rw [← hτ1]
    cases D with
    | nil =>
      have hk0 : kids os k = [] := by simpa using hp.symm.eq_nil
      have hc0 : chl os k = [] := List.eq_nil_of_length_eq_zero (by rw [hcl, hk0]; rfl)
      rw [hc0]
      have hτ : τ1 = { finS σ [] with ora := τ.ora } := by
        rw [← hτ1]
        have hn0 := hS.nobj
        simp only [List.length_nil, Nat.add_zero] at hn0
        simp only [finS, List.length_nil, Nat.add_zero, hn0, hS.ntok, hS.fr, Sto.mk.injEq, true_and, and_true, srtD]
        rw [hS.obj, hk0]
        funext i
        simp only [upd, colO, finO, List.length_nil, List.map_nil, Nat.add_zero]
        by_cases h1 : i = m
        · subst h1; rw [if_pos rfl, if_pos hm, hmo, hk0]; rfl
        · by_cases h2 : i < σ.nobj
          · rw [if_neg h1, if_neg (by omega), if_pos h2, if_neg h1, if_pos h2]
          · by_cases h3 : i = σ.nobj
            · rw [if_neg h1, if_pos h3, if_neg h2, if_neg (by omega), if_pos h3]
            · rw [if_neg h1, if_neg h3, if_neg h2, if_neg h3, if_neg (by omega), if_neg h3, if_neg h2, if_neg h2, if_neg h3]
      have h40 : I 40 [.nils] τ1 = some (.tup [], τ1) := by rw [hI40]; rfl
      have hin : iterJ 1 (L21_0 C I n (.obj p.t 0) (.int .i64 k) .nils (.int .i64 0)) n [.int .i64 0, .nils] τ1 = some (.done .nils τ1) := by
        obtain ⟨n, rfl⟩ : ∃ j, n = j + 1 := ⟨n - 1, by omega⟩
        refine iterJ_done ?_
        simp -implicitDefEqProofs [L21_0, B21_0]
      rw [← hτ]
      refine iterJ_done ?_
      show _ = some (Out.done .nils τ1)
      simp -implicitDefEqProofs [L21_1, B21_1, curS, hnx, h40, hin]
    | cons d D =>
      have hL : 0 < (d :: D).length := by simp
      have hcur : curS σ (d :: D) = .mslice 1 (σ.nobj + (d :: D).length) 0 (d :: D).length none := rfl
      have ho1 : τ1.obj (σ.nobj + (d :: D).length) = .agg ((d :: D).map fun x => .str x.name) := by
        rw [← hτ1]
        show upd (upd τ.obj σ.nobj .undef) m _ _ = _
        rw [updO_ne _ _ (by omega), updO_ne _ _ (by omega), hS.obj]
        simp [colO]
        intro h9; omega
      have hsn := names_sorted (os := os) (d := k) (l := (d :: D).map ObjV.name) (hp.map _)
      have hlt1 : σ.nobj + (d :: D).length < τ1.nobj := by rw [n1, hS.nobj]; omega
      have h40 : I 40 [.mslice 1 (σ.nobj + (d :: D).length) 0 (d :: D).length none] τ1 = some (.tup [], { τ1 with obj := upd τ1.obj (σ.nobj + (d :: D).length) (.agg ((chl os k).map fun x => .str x.name)) }) := by
        rw [hI40]
        have hsc : strCells ((d :: D).map fun x => DVal.str x.name) = some ((d :: D).map ObjV.name) := strCells_names (d :: D)
        generalize (d :: D) = E at *
        simp only [sortSem]
        rw [if_pos hlt1, ho1]
        simp only [hsc]
        rw [if_pos ⟨by simp, by simp; omega⟩, hsn, List.map_map]
        rfl
      generalize hτ2 : ({ τ1 with obj := upd τ1.obj (σ.nobj + (d :: D).length) (.agg ((chl os k).map fun x => .str x.name)) } : Sto) = τ2 at h40
      have hEl : (d :: D).length = (chl os k).length := by rw [hcl, hdl]
      have hτ : τ2 = { finS σ (chl os k) with ora := τ.ora } := by
        have hsd : srtD (chl os k) = .agg ((chl os k).map fun x => .str x.name) := by
          cases hc : chl os k with
          | nil => rw [hc] at hEl; simp at hEl
          | cons y l => rfl
        rw [← hτ2, ← hτ1]
        have hn0 := hS.nobj
        rw [hEl] at hn0 ⊢
        simp only [finS, hn0, hS.ntok, hS.fr, Sto.mk.injEq, true_and, and_true]
        rw [hS.obj, hsd]
        funext i
        simp only [upd, colO, finO]
        rw [hEl] at hL ⊢
        generalize (chl os k).length = L at *
        by_cases h1 : i = m
        · subst h1; rw [if_neg (by omega), if_pos rfl, if_pos hm, hmo]
        · by_cases h2 : i < σ.nobj
          · rw [if_neg (by omega), if_neg h1, if_neg (by omega), if_pos h2, if_neg h1, if_pos h2]
          · by_cases h3 : i = σ.nobj
            · rw [if_neg (by omega), if_neg h1, if_pos h3, if_neg h2, if_pos (by omega)]
            · by_cases h4 : i = σ.nobj + L
              · rw [if_pos h4, if_neg h2, if_neg (by omega), if_pos h4]
              · by_cases h5 : i < σ.nobj + L
                · rw [if_neg h4, if_neg h1, if_neg h3, if_neg h2, if_neg h3, if_pos h5, if_neg h2, if_pos h5]
                · rw [if_neg h4, if_neg h1, if_neg h3, if_neg h2, if_neg h3, if_neg h5, if_neg h4, if_neg h2, if_neg h5, if_neg h4]
      have hT2 : TreeAt τ2 p os last := by rw [hτ]; exact h.kp (kp_fin _ _ _)
      have ho2 : τ2.obj (σ.nobj + (d :: D).length) = .agg ((chl os k).map fun x => .str x.name) := by rw [← hτ2]; exact updO_eq _ _ _
      have hlt2 : σ.nobj + (d :: D).length < τ2.nobj := by rw [← hτ2]; exact hlt1
      have hin := l21_0 (C := C) (I := I) (n := n) hw hT2 (k := k) rfl hlt2 ho2 none (chl os k).length 0 n (by omega) (by rw [hcl]; omega)
      simp only [List.take_zero, Int.natCast_zero] at hin
      have hz : apd τ2 1 (numR []) = (.nils, τ2) := rfl
      rw [hz] at hin
      rw [← hτ, hcur]
      rw [← hEl] at hin
      have hls : lenSlSem [.mslice 1 (σ.nobj + (d :: D).length) 0 (d :: D).length none] = some (.int .i64 (d :: D).length) := rfl
      refine iterJ_done ?_
      generalize (d :: D) = E at *
      generalize (apd τ2 1 (numR (chl os k))) = A2 at *
      have hok : (DVal.mslice 1 (σ.nobj + E.length) 0 E.length none).okVal = true := rfl
      generalize DVal.mslice 1 (σ.nobj + E.length) 0 E.length none = MS at *
      simp -implicitDefEqProofs [L21_1, B21_1, hnx, h40, hin, hls, callIS, hok]
  | succ r ih =>
    intro q D R cur τ hR hq hS hp
    obtain ⟨q, rfl⟩ : ∃ j, q = j + 1 := ⟨q - 1, by omega⟩
    have hlt : σ.nobj < τ.nobj := by rw [hS.nobj]; omega
    have hit : τ.obj σ.nobj = .func m [cur, .tup (R.map kidE), .tup ((kids os k).map kidE)] := by rw [hS.obj]; simp [colO]
    have hj : τ.ora 0 % R.length < R.length := Nat.mod_lt _ (by omega)
    obtain ⟨e, he⟩ := get_some hj
    have hlen : (R.map kidE).length = R.length := by simp
    have he2 : (R.map kidE)[τ.ora 0 % (R.map kidE).length]? = some (.tup [.str e.name, .int .i64 e.num]) := by rw [hlen, List.getElem?_map, he]; rfl
    have hnx := next_cons hlt hit he2
    rw [hlen] at hnx
    generalize hτ1 : ({ τ with obj := upd τ.obj σ.nobj (.func m [.tup [.str e.name, .int .i64 e.num], .tup ((R.map kidE).eraseIdx (τ.ora 0 % R.length)), .tup ((kids os k).map kidE)]), ora := fun i => τ.ora (i + 1) } : Sto) = τ1 at hnx
    have hers : (R.map kidE).eraseIdx (τ.ora 0 % R.length) = (R.eraseIdx (τ.ora 0 % R.length)).map kidE := (ChangeMaps.map_eraseIdx kidE R _).symm
    have hS1 : StC σ m (kids os k) τ1 D (R.eraseIdx (τ.ora 0 % R.length)) (.tup [.str e.name, .int .i64 e.num]) := by
      rw [← hτ1]
      refine ⟨hS.nobj, hS.ntok, hS.fr, ?_⟩
      show upd τ.obj σ.nobj _ = _
      rw [hS.obj, hers]
      funext i
      simp only [upd, colO]
      by_cases h1 : i < σ.nobj
      · rw [if_neg (by omega), if_pos h1, if_pos h1]
      · by_cases h2 : i = σ.nobj
        · rw [if_pos h2, if_neg h1, if_pos h2]
        · rw [if_neg h2, if_neg h1, if_neg h2, if_neg h1, if_neg h2]
    have hlt1 : σ.nobj < τ1.nobj := by rw [hS1.nobj]; omega
    have hent : entMSem τ1 [.obj σ.nobj 0] = some (.tup [.str e.name, .int .i64 e.num], τ1) := ent_at (m := m) (r1 := .tup ((R.eraseIdx (τ.ora 0 % R.length)).map kidE)) (r2 := .tup ((kids os k).map kidE)) hlt1 (by rw [hS1.obj]; simp [colO])
    have hdl : D.length ≤ 256 := by
      have := hp.length_eq
      simp only [List.length_append] at this
      omega
    obtain ⟨τ2, happ, hS2, -⟩ := app_col e hS1 (by omega)
    have hpe : (e :: R.eraseIdx (τ.ora 0 % R.length)).Perm R := get_perm he
    obtain ⟨o, ho⟩ := ih q (D ++ [e]) (R.eraseIdx (τ.ora 0 % R.length)) _ τ2 (by rw [List.length_eraseIdx_of_lt hj]; omega) (by omega) hS2
      (((by rw [List.append_assoc]; exact (hpe.append_left D)) : ((D ++ [e]) ++ R.eraseIdx (τ.ora 0 % R.length)).Perm (D ++ R)).trans hp)
    refine ⟨o, ?_⟩
    rw [← ho]
    refine iterJ_next' ?_
    generalize curS σ (D ++ [e]) = C2 at *
    generalize curS σ D = C1 at *
    simp -implicitDefEqProofs [L21_1, B21_1, hnx, hent, happ]
theorem d21 (hw : Wf os last) (hn : 600 ≤ n) (h : TreeAt σ p os last) (hI30 : ∀ τ, TreeAt τ p os last → I 30 [.obj p.t 0] τ = some (.bool true, τ)) (hI40 : ∀ xs τ, I 40 xs τ = sortSem xs τ) (k : Int) (o : Nat → Nat) :
    ∃ o', outR (D21 C I n (.obj p.t 0) (.int .i64 k) { σ with ora := o }) = some ((apd { finS σ (chl os k) with ora := o' } 1 (numR (chl os k))).1, (apd { finS σ (chl os k) with ora := o' } 1 (numR (chl os k))).2) := by
  have ho : TreeAt { σ with ora := o } p os last := h.kp ⟨Nat.le_refl _, fun _ _ => rfl⟩
  have hfin : ∀ o', ({ finS σ (chl os k) with ora := o' } : Sto) = { finS { σ with ora := o } (chl os k) with ora := o' } := fun o' => rfl
  have nob : ({ σ with ora := o } : Sto).nobj = σ.nobj := rfl
  generalize ({ σ with ora := o } : Sto) = σ0 at *
  have h30 := hI30 σ0 ho
  have h1 := ho.ld1
  have h2 := ho.lookD k
  have hkl : (kids os k).length ≤ 256 := Nat.le_trans (List.length_filter_le _ _) hw.len
  simp only [hfin]
  unfold dirD at h2
  split at h2
  · rename_i ha
    obtain ⟨x, hx, e⟩ := List.any_eq_true.1 ha
    have e : x.num = k := by simpa using e
    subst e
    have hr := rng_at (ho.fl x hx) (ho.inner x hx) (fun s r e => by cases hb : kids os x.num <;> rw [hb] at e <;> cases e)
    have hS : StC σ0 (p.phi x.num) (kids os x.num) { σ0 with nobj := σ0.nobj + 1, obj := upd (upd σ0.obj (p.phi x.num) (.iface σ0.nobj .undef)) σ0.nobj (.func (p.phi x.num) [.undef, .tup ((kids os x.num).map kidE), .tup ((kids os x.num).map kidE)]) } [] (kids os x.num) .undef := by
      refine ⟨by simp, rfl, rfl, ?_⟩
      funext i
      have := ho.fl x hx
      simp only [upd, colO, List.length_nil, Nat.add_zero]
      by_cases h1 : i = σ0.nobj
      · rw [if_pos h1, if_neg (by omega), if_pos h1]
      · by_cases h2 : i < σ0.nobj
        · rw [if_neg h1, if_pos h2]
        · rw [if_neg h1, if_neg (by omega), if_neg h2, if_neg h1, if_neg h2, if_neg h1]
    obtain ⟨o', hl⟩ := l21_1 (C := C) (I := I) (n := n) hw hn ho (ho.fl x hx) (ho.inner x hx) hI40 (kids os x.num).length n [] (kids os x.num) .undef _ rfl (by omega) hS (by simp)
    refine ⟨o', ?_⟩
    simp only [curS] at hl
    generalize (apd { finS σ0 (chl os x.num) with ora := o' } 1 (numR (chl os x.num))) = A2 at *
    generalize ({ σ0 with nobj := σ0.nobj + 1, obj := upd (upd σ0.obj (p.phi x.num) (.iface σ0.nobj .undef)) σ0.nobj (.func (p.phi x.num) [.undef, .tup ((kids os x.num).map kidE), .tup ((kids os x.num).map kidE)]) } : Sto) = τ5 at *
    simp -implicitDefEqProofs [D21, h30, h1, h2, hr, hl, outR]
  · rename_i ha
    have hk : kids os k = [] := kids_none hw.toWf0 fun x hx e hk => ha (List.any_eq_true.2 ⟨x, mem_dirs.2 ⟨hx, hk⟩, by simpa using e⟩)
    have hc0 : chl os k = [] := List.eq_nil_of_length_eq_zero (by rw [(chl_perm os k).length_eq, hk]; rfl)
    rw [hc0]
    have hr := rng_nil (τ := σ0)
    generalize hτ1 : ({ σ0 with nobj := σ0.nobj + 1, obj := upd σ0.obj σ0.nobj .nilm } : Sto) = τ1 at hr
    have n1 : τ1.nobj = σ0.nobj + 1 := by rw [← hτ1]
    have hnx := next_nilm (τ := τ1) (iid := σ0.nobj) (by omega) (by rw [← hτ1]; exact updO_eq _ _ _)
    generalize hτ2 : ({ τ1 with obj := upd τ1.obj σ0.nobj .undef } : Sto) = τ2 at hnx
    refine ⟨σ0.ora, ?_⟩
    have hτ : τ2 = { finS σ0 [] with ora := σ0.ora } := by
      rw [← hτ2, ← hτ1]
      simp only [finS, List.length_nil, Nat.add_zero, Sto.mk.injEq, true_and, and_true, upd_upd, srtD]
      funext i
      simp only [upd, finO, Nat.add_zero]
      by_cases h1 : i = σ0.nobj
      · rw [if_pos h1, if_neg (by omega), if_neg (by omega)]
      · by_cases h2 : i < σ0.nobj
        · rw [if_neg h1, if_pos h2]
        · rw [if_neg h1, if_neg h2, if_neg h2]
    have h40 : I 40 [.nils] τ2 = some (.tup [], τ2) := by rw [hI40]; rfl
    obtain ⟨n, rfl⟩ : ∃ j, n = j + 1 := ⟨n - 1, by omega⟩
    have hin : iterJ 1 (L21_0 C I (n + 1) (.obj p.t 0) (.int .i64 k) .nils (.int .i64 0)) (n + 1) [.int .i64 0, .nils] τ2 = some (.done .nils τ2) := by
      refine iterJ_done ?_
      simp -implicitDefEqProofs [L21_0, B21_0]
    have hout : iterJ 0 (L21_1 C I (n + 1) (.obj p.t 0) (.int .i64 k) (.obj σ0.nobj 0)) (n + 1) [.nils] τ1 = some (.done .nils τ2) := by
      refine iterJ_done ?_
      simp -implicitDefEqProofs [L21_1, B21_1, hnx, h40, hin]
    rw [← hτ]
    show _ = some (DVal.nils, τ2)
    simp -implicitDefEqProofs [D21, h30, h1, h2, hr, hout, outR]
theorem apd_ora (σ : Sto) (o : Nat → Nat) (sz : Nat) (es : List (List DVal)) : (apd { σ with ora := o } sz es).1 = (apd σ sz es).1 ∧ (apd { σ with ora := o } sz es).2 = { (apd σ sz es).2 with ora := o } := by cases es <;> exact ⟨rfl, rfl⟩
def chA (σ : Sto) (os : List ObjV) (k : Int) : DVal × Sto := apd (finS σ (chl os k)) 1 (numR (chl os k))
theorem kp_ch (σ : Sto) (os : List ObjV) (k : Int) : Kp σ (chA σ os k).2 := (kp_fin σ (chl os k) σ.ora).trans (kp_apd _ _ _)
theorem r21 {g : (Nat → Nat) → Option (DVal × Sto)} {k : Int} (h : ∀ o, ∃ o', g o = some ((apd { finS σ (chl os k) with ora := o' } 1 (numR (chl os k))).1, (apd { finS σ (chl os k) with ora := o' } 1 (numR (chl os k))).2)) : rdet σ g = some (chA σ os k) := by
  obtain ⟨o0, h0⟩ := h fun _ => 0
  obtain ⟨a1, a2⟩ := apd_ora (finS σ (chl os k)) o0 1 (numR (chl os k))
  rw [rdet_eq h0 fun o => ?_]
  · rw [a1, a2]
    have : (apd (finS σ (chl os k)) 1 (numR (chl os k))).2.ora = σ.ora := (apd_obj _ _ _).2.2
    have e : ({ (apd (finS σ (chl os k)) 1 (numR (chl os k))).2 with ora := σ.ora } : Sto) = (apd (finS σ (chl os k)) 1 (numR (chl os k))).2 := by rw [← this]
    exact congrArg (fun τ => some ((apd (finS σ (chl os k)) 1 (numR (chl os k))).1, τ)) e
  · obtain ⟨o', ho⟩ := h o
    obtain ⟨b1, b2⟩ := apd_ora (finS σ (chl os k)) o' 1 (numR (chl os k))
    refine ⟨_, ho, ?_⟩
    rw [a1, a2, b1, b2]
    exact ⟨rfl, rfl, rfl, rfl, fun id => .inl rfl⟩
end
theorem v40 (n : Nat) (xs : List DVal) (σ : Sto) : ciJ PR (n + 1) 40 xs σ = sortSem xs σ := by
  have e : PR 40 = some (.sprim sortSem) := by kernel_rfl
  simp [ciJ, evJ, e]
theorem w40 (n : Nat) (xs : List DVal) (σ : Sto) : ciJ PR0 (n + 1) 40 xs σ = sortSem xs σ := by
  have e : PR0 40 = some (.sprim sortSem) := by kernel_rfl
  simp [ciJ, evJ, e]
theorem w30 (n : Nat) (x0 : DVal) (σ : Sto) : ciJ PR0 (n + 1) 30 [x0] σ = finI (D30 (cpJ PR0 n) (ciJ PR0 n) n x0 σ) := by kernel_rfl
theorem w21 (n : Nat) (x0 x1 : DVal) (σ : Sto) : ciJ PR0 (n + 1) 21 [x0, x1] σ = rdet σ fun o => outR (D21 (cpJ PR0 n) (ciJ PR0 n) n x0 x1 { σ with ora := o }) := by kernel_rfl
section
variable {σ : Sto} {p : Pl} {os : List ObjV} {last : Int}
theorem e21 {n : Nat} (hw : Wf os last) (hn : 1002 ≤ n) (h : TreeAt σ p os last) (k : Int) : ciJ PR n 21 [.obj p.t 0, .int .i64 k] σ = some (chA σ os k) := by
  obtain ⟨n, rfl⟩ : ∃ m, n = m + 1 := ⟨n - 1, by omega⟩
  rw [v21]
  refine r21 fun o => d21 hw (by omega) h (fun τ hτ => e30 hτ (by omega)) (fun xs τ => ?_) k o
  obtain ⟨n, rfl⟩ : ∃ m, n = m + 1 := ⟨n - 1, by omega⟩
  exact v40 n xs τ
theorem g21 (hw : Wf os last) (h : TreeAt σ p os last) (k : Int) : ciJ PR0 1000 21 [.obj p.t 0, .int .i64 k] σ = some (chA σ os k) := by
  rw [w21]
  refine r21 fun o => d21 (n := 999) hw (by decide) h (fun τ hτ => ?_) (fun xs τ => w40 _ xs τ) k o
  rw [w30, d30 hτ]
  rfl
theorem g30 (h : TreeAt σ p os last) : ciJ PR0 1000 30 [.obj p.t 0] σ = some (.bool true, σ) := by
  rw [w30, d30 h]
  rfl
end
section
variable {p : Pl} {os : List ObjV} {last : Int}
theorem rows_ch {g : Int → Sto → Option (List Int × Sto)} {f : Int → List Int} : ∀ {l : List ObjV}, (∀ x ∈ l, ∀ σ, TreeAt σ p os last → ∃ σ', g x.num σ = some (f x.num, σ') ∧ Kp σ σ') → ∀ {σ : Sto}, TreeAt σ p os last →
    ∃ σ', rowsS g (numR l) σ = some (l.flatMap fun x => f x.num, σ') ∧ Kp σ σ'
  | [], _, σ, _ => ⟨σ, rfl, Kp.refl σ⟩
  | x :: l, hg, σ, h => by
    obtain ⟨σ1, h1, k1⟩ := hg x (by simp) σ h
    obtain ⟨σ2, h2, k2⟩ := rows_ch (l := l) (fun y hy => hg y (List.mem_cons_of_mem _ hy)) (h.kp k1)
    refine ⟨σ2, ?_, k1.trans k2⟩
    show (g x.num σ).bind _ = _
    rw [h1]
    show (rowsS g (numR l) σ1).map _ = _
    rw [h2]
    rfl
theorem walk_ch (hw : Wf os last) : ∀ (n : Nat) (d : Int) (σ : Sto), (d ∈ os.map ObjV.num) → last < d + n → TreeAt σ p os last → ∃ σ', walkS (.obj p.t 0) n d σ = some (pre os n d, σ') ∧ Kp σ σ'
  | 0, d, σ, hd, hl, h => by
    obtain ⟨x, hx, rfl⟩ := List.mem_map.1 hd
    have := hw.top x hx
    omega
  | n + 1, d, σ, hd, hl, h => by
    have hc := g21 hw h d
    have hk := kp_ch σ os d
    obtain ⟨σ2, h2, k2⟩ := rows_ch (g := walkS (.obj p.t 0) n) (f := pre os n) (l := chl os d) (fun x hx τ hτ => by
      obtain ⟨g1, g2, g3⟩ := mem_chl.1 hx
      have := hw.less x g1 g3
      exact walk_ch hw n x.num τ (List.mem_map.2 ⟨x, g1, rfl⟩) (by omega) hτ) (h.kp hk)
    refine ⟨σ2, ?_, hk.trans k2⟩
    unfold walkS
    rw [hc]
    have hlen : (chl os d).length ≤ 256 := by rw [(chl_perm os d).length_eq]; exact Nat.le_trans (List.length_filter_le _ _) hw.len
    unfold chA at h2 ⊢
    cases hl : chl os d with
    | nil =>
      rw [hl] at h2
      simp only [numR, List.map_nil, rowsS, List.flatMap_nil, Option.some.injEq, Prod.mk.injEq, true_and] at h2
      rw [← h2]
      simp [pre, hl, numR, apd]
    | cons x l =>
      rw [hl] at h2 hlen
      have hc1 : (apd (finS σ (x :: l)) 1 (numR (x :: l))).1 = .slice false ((finS σ (x :: l)).ntok + 3) 1 (numR (x :: l)) := rfl
      simp only [Option.bind_some, hc1]
      rw [if_pos (by simp only [numR, List.length_map]; omega), h2]
      simp [pre, hl]
def allN (os : List ObjV) : List Int := pre os 1000 1
theorem e23 {n : Nat} (hw : Wf os last) (hb : last ≤ 1000) (hn : 1 ≤ n) {σ : Sto} (h : TreeAt σ p os last) : ∃ σ', ciJ PR n 23 [.obj p.t 0] σ = some (.slice false 0 1 ((allN os).map fun i => [.int .i64 i]), σ') ∧ Kp σ σ' := by
  obtain ⟨n, rfl⟩ : ∃ m, n = m + 1 := ⟨n - 1, by omega⟩
  obtain ⟨x, hx, h1, -⟩ := hw.toWf0.one
  obtain ⟨σ', h2, k2⟩ := walk_ch hw 1000 1 σ (List.mem_map.2 ⟨x, hx, h1⟩) (by omega) h
  refine ⟨σ', ?_, k2⟩
  rw [v23]
  show listB (.obj p.t 0) σ = _
  unfold listB
  rw [g30 h]
  simp only [Option.bind_some, h2]
  have hlen := hw.toWf0.all_len (k := 1000) (by omega)
  have h256 := hw.len
  have hpos : 0 < os.length := List.length_pos_of_mem hx
  rw [if_pos (by omega)]
  rfl
end
end Go.Proofs.YtklepphkbbjbjaaDoor
namespace Go.Proofs.YtklepphkbbjbjaaDoor
set_option linter.unusedVariables false
set_option linter.unusedSimpArgs false
set_option maxRecDepth 20000
set_option maxHeartbeats 8000000
open Go
def Foot (p : Pl) (os : List ObjV) (i : Nat) : Prop := i = p.t ∨ i = p.nid ∨ i = p.did ∨ ∃ x ∈ dirs os, i = p.phi x.num
structure Frm (σ σ' : Sto) (p p' : Pl) (os os' : List ObjV) : Prop where
  size : σ.nobj ≤ σ'.nobj
  keep : ∀ i, i < σ.nobj → ¬ Foot p os i → σ'.obj i = σ.obj i
  foot : ∀ i, Foot p' os' i → Foot p os i ∨ σ.nobj ≤ i
  same : p'.t = p.t
theorem Frm.of_kp {σ σ' : Sto} (h : Kp σ σ') (p : Pl) (os : List ObjV) : Frm σ σ' p p os os := ⟨h.size, fun i hi _ => h.obj i hi, fun i hi => .inl hi, rfl⟩
theorem Frm.trans {σ σ' σ'' : Sto} {p p' p'' : Pl} {os os' os'' : List ObjV} (h : Frm σ σ' p p' os os') (h' : Frm σ' σ'' p' p'' os' os'') : Frm σ σ'' p p'' os os'' where
  size := Nat.le_trans h.size h'.size
  keep i hi hn := (h'.keep i (Nat.lt_of_lt_of_le hi h.size) (fun hf => (h.foot i hf).elim (fun h1 => hn h1) (fun h1 => absurd hi (by omega)))).trans (h.keep i hi hn)
  foot i hi := by
    rcases h'.foot i hi with h1 | h1
    · exact h.foot i h1
    · exact .inr (Nat.le_trans h.size h1)
  same := h'.same.trans h.same
def addE (os : List ObjV) (dir : Int) (name : Bs) (kind : Int) : Int :=
  match fo os dir with
  | none => 11
  | some (_, d) => if d.kind ≠ 2 then 13 else if kind < 1 ∨ 4 < kind then 2 else if nameV name = false then 10 else if (kid os dir name).isSome = true then 12 else
    if 256 < (path os dir).length + 1 + name.length then 4 else if 256 ≤ os.length then 25 else 0
def addV (os : List ObjV) (last dir : Int) (name : Bs) (kind label : Int) : (List ObjV × Int) × Int × Int :=
  if addE os dir name kind = 0 then ((os ++ [⟨last + 1, dir, name, kind, label⟩], last + 1), last + 1, 0) else ((os, last), 0, addE os dir name kind)
structure AddOk (os : List ObjV) (dir : Int) (name : Bs) (kind : Int) : Prop where
  isDir : ∃ d ∈ os, d.num = dir ∧ d.kind = 2
  kind1 : 1 ≤ kind
  kind4 : kind ≤ 4
  isName : nameV name = true
  new : kid os dir name = none
  short : (path os dir).length + 1 + name.length ≤ 256
  room : os.length < 256
theorem addE_zero {os : List ObjV} {dir kind : Int} {name : Bs} : addE os dir name kind = 0 ↔ AddOk os dir name kind ∧ ∃ i d, fo os dir = some (i, d) ∧ d.kind = 2 := by
  unfold addE
  constructor
  · intro h
    split at h
    · cases h
    · rename_i i d hf
      obtain ⟨h1, h2, h3⟩ := fo_some hf
      split at h
      · cases h
      · rename_i c1
        split at h
        · cases h
        · rename_i c2
          split at h
          · cases h
          · rename_i c3
            split at h
            · cases h
            · rename_i c4
              split at h
              · cases h
              · rename_i c5
                split at h
                · cases h
                · rename_i c6
                  have hk : d.kind = 2 := by simpa using c1
                  exact ⟨⟨⟨d, h2, h3, hk⟩, by omega, by omega, by simpa using c3, by simpa using c4, by omega, by omega⟩, i, d, hf, hk⟩
  · rintro ⟨ha, i, d, hf, hk⟩
    rw [hf]
    simp only
    have b1 := ha.kind1
    have b2 := ha.kind4
    have b3 := ha.short
    have b4 := ha.room
    rw [if_neg (by simpa using hk), if_neg (by omega), if_neg (by rw [ha.isName]; simp), if_neg (by rw [ha.new]; simp), if_neg (by omega), if_neg (by omega)]
section
variable {σ : Sto} {p : Pl} {os : List ObjV} {last : Int}
theorem kids_app {x : ObjV} (d : Int) (h1 : x.num ≠ 1) : kids (os ++ [x]) d = if x.dir = d then kids os d ++ [x] else kids os d := by
  unfold kids
  rw [List.filter_append]
  split
  · rename_i e; simp [e, h1]
  · rename_i e; simp [e]
theorem dirs_app (x : ObjV) : dirs (os ++ [x]) = if x.kind = 2 then dirs os ++ [x] else dirs os := by
  unfold dirs
  rw [List.filter_append]
  split
  · rename_i e; simp [e]
  · rename_i e; simp [e]
theorem Wf0.add (h : Wf0 os last) {dir kind : Int} {name : Bs} (ha : AddOk os dir name kind) (label : Int) : Wf0 (os ++ [⟨last + 1, dir, name, kind, label⟩]) (last + 1) := by
  have hlp := h.last_pos
  obtain ⟨d, hd, hdn, hdk⟩ := ha.isDir
  have hdl := h.top d hd
  refine ⟨?_, ?_, ?_, ?_, ?_, ?_, ?_⟩
  · obtain ⟨lab, rest, rfl⟩ := h.root
    exact ⟨lab, rest ++ [_], rfl⟩
  · rw [List.pairwise_append]
    refine ⟨h.sorted, by simp, fun a hab b hb => ?_⟩
    simp only [List.mem_cons, List.not_mem_nil, or_false] at hb
    subst hb
    have := h.top a hab
    show a.num < last + 1
    omega
  · intro x hx
    rcases List.mem_append.1 hx with hx | hx
    · have := h.top x hx; omega
    · simp only [List.mem_cons, List.not_mem_nil, or_false] at hx
      subst hx
      exact Int.le_refl _
  · intro x hx h1
    rcases List.mem_append.1 hx with hx | hx
    · obtain ⟨e, he, h2⟩ := h.dir x hx h1
      exact ⟨e, List.mem_append_left _ he, h2⟩
    · simp only [List.mem_cons, List.not_mem_nil, or_false] at hx
      subst hx
      exact ⟨d, List.mem_append_left _ hd, hdn, hdk⟩
  · intro x hx h1
    rcases List.mem_append.1 hx with hx | hx
    · exact h.less x hx h1
    · simp only [List.mem_cons, List.not_mem_nil, or_false] at hx
      subst hx
      show dir < last + 1
      omega
  · intro x hx h1
    rcases List.mem_append.1 hx with hx | hx
    · exact h.name x hx h1
    · simp only [List.mem_cons, List.not_mem_nil, or_false] at hx
      subst hx
      exact ha.isName
  · intro x hx y hy h1 h2 e1 e2
    have hno : ∀ z ∈ os, z.num ≠ 1 → z.dir = dir → z.name ≠ name := fun z hz z1 z2 => kid_none ha.new z (mem_kids.2 ⟨hz, z2, z1⟩)
    rcases List.mem_append.1 hx with hx | hx <;> rcases List.mem_append.1 hy with hy | hy
    · exact h.uniq x hx y hy h1 h2 e1 e2
    · simp only [List.mem_cons, List.not_mem_nil, or_false] at hy
      subst hy
      exact absurd e2 (hno x hx h1 e1)
    · simp only [List.mem_cons, List.not_mem_nil, or_false] at hx
      subst hx
      exact absurd e2.symm (hno y hy h2 e1.symm)
    · simp only [List.mem_cons, List.not_mem_nil, or_false] at hx hy
      rw [hx, hy]
theorem Wf.add (h : Wf os last) {dir kind : Int} {name : Bs} (ha : AddOk os dir name kind) (label : Int) : Wf (os ++ [⟨last + 1, dir, name, kind, label⟩]) (last + 1) := by
  have h0 := h.toWf0.add ha label
  have hlp := h.last_pos
  have hp := h.toWf0.path_within h0 fun x hx _ => ⟨x, List.mem_append_left _ hx, rfl, rfl, rfl⟩
  refine ⟨h0, fun x hx => ?_, by have := ha.room; simp; omega⟩
  rcases List.mem_append.1 hx with hx | hx
  · rw [hp x hx]; exact h.short x hx
  · simp only [List.mem_cons, List.not_mem_nil, or_false] at hx
    obtain ⟨d, hd, hdn, -⟩ := ha.isDir
    have h1 : x.num ≠ 1 := by rw [hx]; show last + 1 ≠ 1; omega
    have hs := ha.short
    rw [h0.path_step (by rw [hx]; simp) h1, hx]
    show ((path _ dir) ++ 47 :: name).length ≤ 256
    have hpd := hp d hd
    rw [hdn] at hpd
    rw [hpd]
    simp
    omega
theorem TreeAt.added (h : TreeAt σ p os last) (hw : Wf0 os last) {dir kind : Int} {name : Bs} (ha : AddOk os dir name kind) (label : Int) {σ' : Sto} (hn : σ.nobj ≤ σ'.nobj) (hn2 : kind = 2 → σ.nobj < σ'.nobj ∧ σ'.obj σ.nobj = .tup [])
    (ht : σ'.obj p.t = .agg [.map p.nid, .map p.did, .int .i64 (last + 1 + 1)]) (hnd : σ'.obj p.nid = .tup ((os.map ObjV.ent) ++ [(⟨last + 1, dir, name, kind, label⟩ : ObjV).ent]))
    (hin : σ'.obj (p.phi dir) = .tup ((kids os dir).map kidE ++ [kidE ⟨last + 1, dir, name, kind, label⟩]))
    (hdd : σ'.obj p.did = .tup ((dirs os).map (dirE p.phi) ++ if kind = 2 then [.tup [.int .i64 (last + 1), .map σ.nobj]] else []))
    (hrest : ∀ i, i < σ.nobj → i ≠ p.t → i ≠ p.nid → i ≠ p.did → i ≠ p.phi dir → σ'.obj i = σ.obj i) :
    TreeAt σ' { p with phi := fun d => if d = last + 1 then σ.nobj else p.phi d } (os ++ [⟨last + 1, dir, name, kind, label⟩]) (last + 1) ∧
      Frm σ σ' p { p with phi := fun d => if d = last + 1 then σ.nobj else p.phi d } os (os ++ [⟨last + 1, dir, name, kind, label⟩]) := by
  have hlp := hw.last_pos
  obtain ⟨d0, hd0, hd0n, hd0k⟩ := ha.isDir
  have hd0d : d0 ∈ dirs os := mem_dirs.2 ⟨hd0, hd0k⟩
  have hold : ∀ x ∈ dirs os, (if x.num = last + 1 then σ.nobj else p.phi x.num) = p.phi x.num := fun x hx => by
    have := hw.top x (mem_dirs.1 hx).1
    rw [if_neg (by omega)]
  have hcase : ∀ x ∈ dirs (os ++ [(⟨last + 1, dir, name, kind, label⟩ : ObjV)]), x ∈ dirs os ∨ (x = ⟨last + 1, dir, name, kind, label⟩ ∧ kind = 2) := fun x hx => by
    rw [dirs_app] at hx
    split at hx
    · rename_i e
      rcases List.mem_append.1 hx with hx | hx
      · exact .inl hx
      · simp only [List.mem_cons, List.not_mem_nil, or_false] at hx; exact .inr ⟨hx, e⟩
    · exact .inl hx
  constructor
  · refine ⟨Nat.lt_of_lt_of_le h.tl hn, Nat.lt_of_lt_of_le h.nl hn, Nat.lt_of_lt_of_le h.dl hn, ?_, h.tn, h.td, h.nd, ?_, ?_, ht, ?_, ?_, ?_⟩
    · intro x hx
      show (if x.num = last + 1 then σ.nobj else p.phi x.num) < _
      rcases hcase x hx with hx | ⟨rfl, hk⟩
      · rw [hold x hx]; exact Nat.lt_of_lt_of_le (h.fl x hx) hn
      · rw [if_pos rfl]; exact (hn2 hk).1
    · intro x hx
      show (if x.num = last + 1 then σ.nobj else p.phi x.num) ≠ _ ∧ (if x.num = last + 1 then σ.nobj else p.phi x.num) ≠ _ ∧ (if x.num = last + 1 then σ.nobj else p.phi x.num) ≠ _
      rcases hcase x hx with hx | ⟨rfl, hk⟩
      · rw [hold x hx]; exact h.fn x hx
      · rw [if_pos rfl]
        have a1 := h.tl
        have a2 := h.nl
        have a3 := h.dl
        exact ⟨(Nat.ne_of_lt a1).symm, (Nat.ne_of_lt a2).symm, (Nat.ne_of_lt a3).symm⟩
    · intro x hx y hy e
      replace e : (if x.num = last + 1 then σ.nobj else p.phi x.num) = (if y.num = last + 1 then σ.nobj else p.phi y.num) := e
      rcases hcase x hx with hx | ⟨rfl, hk⟩ <;> rcases hcase y hy with hy | ⟨rfl, hk'⟩
      · rw [hold x hx, hold y hy] at e; exact h.ff x hx y hy e
      · rw [hold x hx, if_pos rfl] at e
        have := h.fl x hx; omega
      · rw [hold y hy, if_pos rfl] at e
        have := h.fl y hy; omega
      · rfl
    · rw [List.map_append]; exact hnd
    · rw [hdd, dirs_app]
      have e1 : (dirs os).map (dirE fun d => if d = last + 1 then σ.nobj else p.phi d) = (dirs os).map (dirE p.phi) := List.map_congr_left fun x hx => by
        show DVal.tup [.int .i64 x.num, .map (if x.num = last + 1 then σ.nobj else p.phi x.num)] = _
        rw [hold x hx]
        rfl
      by_cases hk : kind = 2
      · simp only [hk, if_true, List.map_append]
        rw [e1]
        simp [dirE]
      · simp only [hk, if_false, List.append_nil]
        rw [e1]
    · intro x hx
      show σ'.obj (if x.num = last + 1 then σ.nobj else p.phi x.num) = _
      have hne1 : (⟨last + 1, dir, name, kind, label⟩ : ObjV).num ≠ 1 := by show last + 1 ≠ 1; omega
      rcases hcase x hx with hx | ⟨rfl, hk⟩
      · rw [hold x hx, kids_app _ hne1]
        by_cases e : dir = x.num
        · rw [if_pos e, ← e, hin, List.map_append]; rfl
        · rw [if_neg e, ← h.inner x hx]
          obtain ⟨f1, f2, f3⟩ := h.fn x hx
          refine hrest _ (h.fl x hx) f1 f2 f3 fun e2 => e ?_
          rw [← hd0n] at e2 ⊢
          exact (h.ff x hx d0 hd0d e2).symm
      · rw [if_pos rfl, (hn2 hk).2, kids_app _ hne1]
        have hdl := hw.top d0 hd0
        rw [if_neg (by show ¬ dir = last + 1; omega)]
        have : kids os (last + 1) = [] := kids_none hw fun x hx e => by have := hw.top x hx; omega
        show _ = DVal.tup ((kids os (last + 1)).map kidE)
        rw [this]
        rfl
  · refine ⟨hn, fun i hi hf => ?_, fun i hi => ?_, rfl⟩
    · refine hrest i hi (fun e => hf (.inl e)) (fun e => hf (.inr (.inl e))) (fun e => hf (.inr (.inr (.inl e)))) fun e => hf (.inr (.inr (.inr ⟨d0, hd0d, by rw [hd0n]; exact e⟩)))
    · rcases hi with e | e | e | ⟨x, hx, e⟩
      · exact .inl (.inl e)
      · exact .inl (.inr (.inl e))
      · exact .inl (.inr (.inr (.inl e)))
      · replace e : i = (if x.num = last + 1 then σ.nobj else p.phi x.num) := e
        rcases hcase x hx with hx | ⟨rfl, hk⟩
        · rw [hold x hx] at e; exact .inl (.inr (.inr (.inr ⟨x, hx, e⟩)))
        · rw [if_pos rfl] at e; exact .inr (by omega)
theorem e11 {n : Nat} (hw : Wf os last) (hb : last ≤ 1000) (hn : 2000 ≤ n) (h : TreeAt σ p os last) (dir : Int) (name : Bs) (kind label : Int) :
    ∃ σ' p', ciJ PR n 11 [.obj p.t 0, .int .i64 dir, .str name, .int .i64 kind, .int .i64 label] σ = some (.tup [.int .i64 (addV os last dir name kind label).2.1, .int .i64 (addV os last dir name kind label).2.2], σ') ∧
      TreeAt σ' p' (addV os last dir name kind label).1.1 (addV os last dir name kind label).1.2 ∧ Frm σ σ' p p' os (addV os last dir name kind label).1.1 := by
  obtain ⟨n, rfl⟩ : ∃ m, n = m + 1 := ⟨n - 1, by omega⟩
  have h30 := e30 h (n := n) (by omega)
  have h31 := e31 h (n := n) (by omega) dir
  have h32 := e32 (n := n) (by omega) name
  have l0 := h.ld0
  have l1 := h.ld1
  have l2 := h.ld2
  have hD := h.lookD dir
  have hK := h.lookK hw.toWf0 (.int .i64 0) true dir name
  have hlen := h.lenN
  have hno : ∀ e, addE os dir name kind = e → e ≠ 0 → addV os last dir name kind label = ((os, last), 0, e) := fun e h1 h2 => by unfold addV; rw [h1, if_neg h2]
  -- when nothing is done
  have fail : ∀ e, addE os dir name kind = e → e ≠ 0 → ciJ PR (n + 1) 11 [.obj p.t 0, .int .i64 dir, .str name, .int .i64 kind, .int .i64 label] σ = some (.tup [.int .i64 0, .int .i64 e], σ) →
      ∃ σ' p', ciJ PR (n + 1) 11 [.obj p.t 0, .int .i64 dir, .str name, .int .i64 kind, .int .i64 label] σ = some (.tup [.int .i64 (addV os last dir name kind label).2.1, .int .i64 (addV os last dir name kind label).2.2], σ') ∧
      TreeAt σ' p' (addV os last dir name kind label).1.1 (addV os last dir name kind label).1.2 ∧ Frm σ σ' p p' os (addV os last dir name kind label).1.1 := fun e h1 h2 h3 => by
    rw [hno e h1 h2]
    exact ⟨σ, p, h3, h, Frm.of_kp (Kp.refl σ) p os⟩
  have hkn : lookRes (.int .i64 0) true ((kid os dir name).map fun r => (r.1, DVal.int .i64 r.2.num)) = .tup [(match kid os dir name with | some r => .int .i64 r.2.num | none => .int .i64 0), .bool (kid os dir name).isSome] := by
    cases kid os dir name <;> rfl
  rw [hkn] at hK
  generalize hkx : (match kid os dir name with | some r => DVal.int .i64 r.2.num | none => .int .i64 0) = KX at hK
  generalize hDD : dirD os p dir = DD at hD hK
  cases hf : fo os dir with
  | none =>
    have hh : hasN os dir = false := by unfold hasN; rw [hf]; rfl
    refine fail 11 (by unfold addE; rw [hf]) (by decide) ?_
    rw [hh] at h31
    rw [v11]
    generalize getN os dir = N at *
    simp -implicitDefEqProofs [D11, h30, h31, l1, hD, hK, -jwrSem.eq_1, -fldSem.eq_1]
  | some r =>
    obtain ⟨i, d⟩ := r
    obtain ⟨-, hd, hdn⟩ := fo_some hf
    have hh : hasN os dir = true := by unfold hasN; rw [hf]; rfl
    have hg : getN os dir = d.node := by unfold getN; rw [hf]
    rw [hh, hg] at h31
    have hE : addE os dir name kind = if d.kind ≠ 2 then 13 else if kind < 1 ∨ 4 < kind then 2 else if nameV name = false then 10 else if (kid os dir name).isSome = true then 12 else
      if 256 < (path os dir).length + 1 + name.length then 4 else if 256 ≤ os.length then 25 else 0 := by unfold addE; rw [hf]
    have nk : NodeV.kind d.node = d.kind := rfl
    by_cases c1 : ¬ d.kind = 2
    · refine fail 13 (by rw [hE, if_pos c1]) (by decide) ?_
      have c1' : (d.kind == 2) = false := by simpa using c1
      rw [v11]
      generalize d.node = N at *
      simp -implicitDefEqProofs [D11, h30, h31, l1, hD, hK, nk, c1, c1', -jwrSem.eq_1, -fldSem.eq_1]
    replace c1 : d.kind = 2 := Decidable.not_not.1 c1
    rw [if_neg (by simpa using c1)] at hE
    have c1' : (d.kind == 2) = true := by simpa using c1
    by_cases c2 : kind < 1
    · refine fail 2 (by rw [hE, if_pos (.inl c2)]) (by decide) ?_
      rw [v11]
      generalize d.node = N at *
      simp -implicitDefEqProofs [D11, h30, h31, l1, hD, hK, nk, c1, c1', c2, -jwrSem.eq_1, -fldSem.eq_1]
    by_cases c3 : 4 < kind
    · refine fail 2 (by rw [hE, if_pos (.inr c3)]) (by decide) ?_
      rw [v11]
      generalize d.node = N at *
      simp -implicitDefEqProofs [D11, h30, h31, l1, hD, hK, nk, c1, c1', c2, c3, -jwrSem.eq_1, -fldSem.eq_1]
    rw [if_neg (by omega)] at hE
    cases c4 : nameV name with
    | false =>
      refine fail 10 (by rw [hE, if_pos c4]) (by decide) ?_
      rw [c4] at h32
      rw [v11]
      generalize d.node = N at *
      simp -implicitDefEqProofs [D11, h30, h31, l1, hD, hK, nk, c1, c1', c2, c3, h32, -jwrSem.eq_1, -fldSem.eq_1]
    | true =>
    rw [if_neg (by rw [c4]; simp)] at hE
    rw [c4] at h32
    cases c5 : (kid os dir name).isSome with
    | true =>
      refine fail 12 (by rw [hE, if_pos c5]) (by decide) ?_
      rw [c5] at hK
      rw [v11]
      generalize d.node = N at *
      simp -implicitDefEqProofs [D11, h30, h31, l1, hD, hK, nk, c1, c1', c2, c3, h32, -jwrSem.eq_1, -fldSem.eq_1]
    | false =>
    rw [if_neg (by rw [c5]; simp)] at hE
    rw [c5] at hK
    have h33 := e33 h (n := n) hw (by omega) (by omega) hd
    rw [hdn] at h33
    have hps := hw.short d hd
    rw [hdn] at hps
    have hnl : name.length ≤ 32 := by
      simp only [nameV, Bool.and_eq_true, decide_eq_true_eq] at c4
      exact c4.1.2
    have w1 : IntKind.i64.wrap (((path os dir).length : Int) + 1) = ((path os dir).length : Int) + 1 := wrap_i64 (by omega) (by omega)
    have w2 : IntKind.i64.wrap (((path os dir).length : Int) + 1 + (name.length : Int)) = ((path os dir).length : Int) + 1 + (name.length : Int) := wrap_i64 (by omega) (by omega)
    by_cases c6 : 256 < (path os dir).length + 1 + name.length
    · refine fail 4 (by rw [hE, if_pos c6]) (by decide) ?_
      have c6' : (256 : Int) < ((path os dir).length : Int) + 1 + (name.length : Int) := by omega
      rw [v11]
      generalize d.node = N at *
      simp -implicitDefEqProofs [D11, h30, h31, l1, hD, hK, nk, c1, c1', c2, c3, h32, h33, w1, w2, c6', -jwrSem.eq_1, -fldSem.eq_1]
    rw [if_neg c6] at hE
    have c6' : ¬ (256 : Int) < ((path os dir).length : Int) + 1 + (name.length : Int) := by omega
    by_cases c7 : 256 ≤ os.length
    · refine fail 25 (by rw [hE, if_pos c7]) (by decide) ?_
      have c7' : (256 : Int) ≤ (os.length : Int) := by omega
      rw [v11]
      generalize d.node = N at *
      simp -implicitDefEqProofs [D11, h30, h31, l0, l1, hD, hK, nk, c1, c1', c2, c3, h32, h33, w1, w2, c6', hlen, c7', -jwrSem.eq_1, -fldSem.eq_1]
    rw [if_neg c7] at hE
    have c7' : ¬ (256 : Int) ≤ (os.length : Int) := by omega
    obtain ⟨ha, -⟩ := addE_zero.1 hE
    have hlp := hw.last_pos
    have hav : addV os last dir name kind label = ((os ++ [⟨last + 1, dir, name, kind, label⟩], last + 1), last + 1, 0) := by unfold addV; rw [if_pos hE]
    rw [hav]
    have hdm : d ∈ dirs os := mem_dirs.2 ⟨hd, c1⟩
    have hDD' : dirD os p dir = .map (p.phi dir) := by unfold dirD; rw [if_pos (List.any_eq_true.2 ⟨d, hdm, by simpa using hdn⟩)]
    obtain ⟨f1, f2, f3⟩ := h.fn d hdm
    have hfl := h.fl d hdm
    rw [hdn] at f1 f2 f3 hfl
    have htl := h.tl
    have hnl2 := h.nl
    have hdl := h.dl
    have tn := h.tn
    have td := h.td
    have nd := h.nd
    -- the store, step by step
    have w3 : IntKind.i64.wrap (last + 1 + 1) = last + 1 + 1 := wrap_i64 (by omega) (by omega)
    obtain ⟨τ1, e1⟩ : ∃ τ, τ = σ.put p.t (.agg [.map p.nid, .map p.did, .int .i64 (last + 1 + 1)]) := ⟨_, rfl⟩
    have s1 : stOSem σ 1 [.obj p.t 2, .int .i64 (last + 1 + 1)] = some (.undef, τ1) := by rw [st_obj (k := 1) h.obj h.tl rfl rfl, e1]; rfl
    have o1 : ∀ i, i ≠ p.t → τ1.obj i = σ.obj i := fun i hi => by rw [e1, Sto.put_obj_ne hi]
    have t1 : τ1.obj p.t = .agg [.map p.nid, .map p.did, .int .i64 (last + 1 + 1)] := by rw [e1]; simp
    have n1 : τ1.nobj = σ.nobj := by rw [e1]; rfl
    have s2 : ldOSem τ1 none [.obj p.t 0] = some (.map p.nid, τ1) := by rw [ld_obj _ t1 (by omega)]; rfl
    obtain ⟨τ2, e2⟩ : ∃ τ, τ = τ1.put p.nid (.tup ((os.map ObjV.ent) ++ [(⟨last + 1, dir, name, kind, label⟩ : ObjV).ent])) := ⟨_, rfl⟩
    have hfn : firstAt (fun x : ObjV => (last + 1) == x.num) os 0 = none := firstAt_no fun x hx => by
      have := hw.top x hx
      simp; omega
    have s3 : mupdSem false [.i .i64] τ1 [.map p.nid, .int .i64 (last + 1), (⟨dir, name, kind, label⟩ : NodeV).d] = some (.undef, τ2) := by
      rw [upd_I (l := os) (key := ObjV.num) (val := fun x => x.node.d) (by omega) ((o1 _ (Ne.symm tn)).trans h.nodes) (last + 1) (NodeV_okVal _), hfn, e2]
      rfl
    have o2 : ∀ i, i ≠ p.nid → τ2.obj i = τ1.obj i := fun i hi => by rw [e2, Sto.put_obj_ne hi]
    have n2 : τ2.nobj = σ.nobj := by rw [e2]; exact n1
    have t2 : τ2.obj p.t = .agg [.map p.nid, .map p.did, .int .i64 (last + 1 + 1)] := (o2 _ tn).trans t1
    have s4 : ldOSem τ2 none [.obj p.t 1] = some (.map p.did, τ2) := by rw [ld_obj _ t2 (by omega)]; rfl
    have d2 : τ2.obj p.did = .tup ((dirs os).map (dirE p.phi)) := (o2 _ (Ne.symm nd)).trans ((o1 _ (Ne.symm td)).trans h.names)
    have s5 : lookSem false [.i .i64] .nilm false τ2 [.map p.did, .int .i64 dir] = some (.map (p.phi dir), τ2) := by
      rw [look_I (l := dirs os) (key := ObjV.num) (val := fun x => .map (p.phi x.num)) (by omega) d2 dir]
      cases hq : firstAt (fun x : ObjV => dir == x.num) (dirs os) 0 with
      | none =>
        have := firstAt_none hq d hdm
        simp [hdn] at this
      | some r =>
        obtain ⟨j, y⟩ := r
        obtain ⟨m, -, q2, q3, -⟩ := firstAt_some hq
        have q3 : dir = y.num := by simpa using q3
        rw [q3]
        rfl
    obtain ⟨τ3, e3⟩ : ∃ τ, τ = τ2.put (p.phi dir) (.tup ((kids os dir).map kidE ++ [kidE ⟨last + 1, dir, name, kind, label⟩])) := ⟨_, rfl⟩
    have hkn2 : kid os dir name = none := by simpa using c5
    have i2 : τ2.obj (p.phi dir) = .tup ((kids os dir).map kidE) := by
      rw [o2 _ f2, o1 _ f1, ← hdn]
      exact h.inner d hdm
    have s6 : mupdSem false [.s] τ2 [.map (p.phi dir), .str name, .int .i64 (last + 1)] = some (.undef, τ3) := by
      rw [upd_S (l := kids os dir) (key := ObjV.name) (val := fun y => .int .i64 y.num) (by omega) i2 name rfl]
      rw [show firstAt (fun x : ObjV => name == x.name) (kids os dir) 0 = none from hkn2, e3]
      rfl
    have o3 : ∀ i, i ≠ p.phi dir → τ3.obj i = τ2.obj i := fun i hi => by rw [e3, Sto.put_obj_ne hi]
    have n3 : τ3.nobj = σ.nobj := by rw [e3]; exact n2
    have i3 : τ3.obj (p.phi dir) = .tup ((kids os dir).map kidE ++ [kidE ⟨last + 1, dir, name, kind, label⟩]) := by rw [e3]; simp
    have m2 : τ2.obj p.nid = .tup ((os.map ObjV.ent) ++ [(⟨last + 1, dir, name, kind, label⟩ : ObjV).ent]) := by rw [e2]; simp
    have t3 := (o3 _ (Ne.symm f1)).trans t2
    have m3 := (o3 _ (Ne.symm f2)).trans m2
    have d3 := (o3 _ (Ne.symm f3)).trans d2
    have hbd : POp.sem (cpJ PR n) [.int .i64 dir, .str name, .int .i64 kind, .int .i64 label] (.build [(.int .i64 0), (.str []), (.int .i64 0), (.int .i64 0)] [(0, 1), (1, 1), (2, 1), (3, 1)]) = some (⟨dir, name, kind, label⟩ : NodeV).d := rfl
    by_cases c8 : kind = 2
    · subst c8
      have s7 : ldOSem τ3 none [.obj p.t 1] = some (.map p.did, τ3) := by rw [ld_obj _ t3 (by omega)]; rfl
      obtain ⟨τ4, e4⟩ : ∃ τ, τ = τ3.new (.tup []) := ⟨_, rfl⟩
      have s8 : mkmapSem τ3 [] = some (.map σ.nobj, τ4) := by rw [e4, ← n3]; rfl
      have o4 : ∀ i, i < σ.nobj → τ4.obj i = τ3.obj i := fun i hi => by rw [e4, Sto.new_obj_ne (by omega)]
      have n4 : τ4.nobj = σ.nobj + 1 := by rw [e4]; show τ3.nobj + 1 = _; rw [n3]
      have d4 := (o4 _ hdl).trans d3
      obtain ⟨τ5, e5⟩ : ∃ τ, τ = τ4.put p.did (.tup ((dirs os).map (dirE p.phi) ++ [.tup [.int .i64 (last + 1), .map σ.nobj]])) := ⟨_, rfl⟩
      have hfd : firstAt (fun x : ObjV => (last + 1) == x.num) (dirs os) 0 = none := firstAt_no fun x hx => by
        have := hw.top x (mem_dirs.1 hx).1
        simp; omega
      have s9 : mupdSem false [.i .i64] τ4 [.map p.did, .int .i64 (last + 1), .map σ.nobj] = some (.undef, τ5) := by
        rw [upd_I (l := dirs os) (key := ObjV.num) (val := fun x => .map (p.phi x.num)) (by omega) d4 (last + 1) rfl, hfd, e5]
        rfl
      have o5 : ∀ i, i ≠ p.did → τ5.obj i = τ4.obj i := fun i hi => by rw [e5, Sto.put_obj_ne hi]
      have n5 : τ5.nobj = σ.nobj + 1 := by rw [e5]; exact n4
      obtain ⟨g1, g2⟩ := h.added hw.toWf0 ha label (σ' := τ5) (by omega) (fun _ => ⟨by omega, by rw [o5 _ (by omega), e4, ← n3]; simp⟩) ((o5 _ td).trans ((o4 _ htl).trans t3)) ((o5 _ nd).trans ((o4 _ hnl2).trans m3))
        ((o5 _ f3).trans ((o4 _ hfl).trans i3)) (by rw [if_pos rfl, e5]; simp) (fun i hi a1 a2 a3 a4 => by rw [o5 _ a3, o4 _ hi, o3 _ a4, o2 _ a2, o1 _ a1])
      refine ⟨τ5, _, ?_, g1, g2⟩
      rw [v11]
      rw [hDD'] at hDD
      subst hDD
      generalize d.node = N at *
      generalize (⟨dir, name, 2, label⟩ : NodeV).d = ND at *
      simp -implicitDefEqProofs [D11, h30, h31, l0, l1, l2, hD, hK, nk, c1, c1', c2, c3, h32, h33, w1, w2, w3, c6', hlen, c7', s1, s2, s3, s4, s5, s6, s7, s8, s9, hbd, -jwrSem.eq_1, -fldSem.eq_1]
    · have c8' : (kind == 2) = false := by simpa using c8
      obtain ⟨g1, g2⟩ := h.added hw.toWf0 ha label (σ' := τ3) (by omega) (fun e => absurd e c8) t3 m3 i3 (by rw [if_neg c8, List.append_nil]; exact d3) (fun i hi a1 a2 a3 a4 => by rw [o3 _ a4, o2 _ a2, o1 _ a1])
      refine ⟨τ3, _, ?_, g1, g2⟩
      rw [v11]
      rw [hDD'] at hDD
      subst hDD
      generalize d.node = N at *
      generalize (⟨dir, name, kind, label⟩ : NodeV).d = ND at *
      simp -implicitDefEqProofs [D11, h30, h31, l0, l1, l2, hD, hK, nk, c1, c1', c2, c3, h32, h33, w1, w2, w3, c6', hlen, c7', s1, s2, s3, s4, s5, s6, hbd, c8, c8', -jwrSem.eq_1, -fldSem.eq_1]
end
end Go.Proofs.YtklepphkbbjbjaaDoor
namespace Go.Proofs.YtklepphkbbjbjaaDoor
set_option linter.unusedVariables false
set_option linter.unusedSimpArgs false
set_option maxRecDepth 20000
set_option maxHeartbeats 8000000
open Go
theorem erase_first {α : Type} {p : α → Bool} : ∀ {l : List α} {i m : Nat} {x : α}, firstAt p l i = some (i + m, x) → l.Pairwise (fun a b => p a = true → p b = true → False) → l.eraseIdx m = l.filter fun y => !p y
  | [], _, _, _, h, _ => by simp [firstAt] at h
  | y :: l, i, m, x, h, hp => by
    obtain ⟨h1, h2⟩ := List.pairwise_cons.1 hp
    rw [firstAt] at h
    split at h
    · rename_i hy
      simp only [Option.some.injEq, Prod.mk.injEq] at h
      obtain rfl : m = 0 := by omega
      rw [List.eraseIdx_cons_zero, List.filter_cons_of_neg (by simp [hy])]
      exact (List.filter_eq_self.2 fun z hz => by
        cases hz2 : p z with
        | false => rfl
        | true => exact (h1 z hz hy hz2).elim).symm
    · rename_i hy
      obtain ⟨m', e, -⟩ := firstAt_some h
      obtain ⟨m, rfl⟩ : ∃ q, m = q + 1 := ⟨m - 1, by omega⟩
      rw [List.eraseIdx_cons_succ, List.filter_cons_of_pos (by simpa using hy)]
      rw [erase_first (i := i + 1) (m := m) (x := x) (by rw [show i + 1 + m = i + (m + 1) by omega]; exact h) h2]
def remE (os : List ObjV) (n : Int) : Int := match fo os n with
  | none => 11
  | some _ => if n = 1 ∨ kids os n ≠ [] then 23 else 0
def remV (os : List ObjV) (n : Int) : List ObjV × Int := if remE os n = 0 then (os.filter (fun x => x.num != n), 0) else (os, remE os n)
section
variable {σ : Sto} {p : Pl} {os : List ObjV} {last : Int}
theorem mem_wo {n : Int} {x : ObjV} : x ∈ os.filter (fun x => x.num != n) ↔ x ∈ os ∧ x.num ≠ n := by simp
theorem Wf0.rem (h : Wf0 os last) {n : Int} (h1 : n ≠ 1) (hk : kids os n = []) : Wf0 (os.filter fun x => x.num != n) last := by
  refine ⟨?_, List.Pairwise.filter _ h.sorted, fun x hx => h.top x (mem_wo.1 hx).1, fun x hx hx1 => ?_, fun x hx => h.less x (mem_wo.1 hx).1, fun x hx => h.name x (mem_wo.1 hx).1,
    fun x hx y hy => h.uniq x (mem_wo.1 hx).1 y (mem_wo.1 hy).1⟩
  · obtain ⟨lab, rest, rfl⟩ := h.root
    exact ⟨lab, rest.filter (fun x => x.num != n), by rw [List.filter_cons_of_pos (by simpa using Ne.symm h1)]⟩
  · obtain ⟨hx, hxn⟩ := mem_wo.1 hx
    obtain ⟨d, hd, e, hk2⟩ := h.dir x hx hx1
    refine ⟨d, mem_wo.2 ⟨hd, fun e2 => ?_⟩, e, hk2⟩
    have : x ∈ kids os n := mem_kids.2 ⟨hx, e.symm.trans e2, hx1⟩
    rw [hk] at this
    cases this
theorem Wf.rem (h : Wf os last) {n : Int} (h1 : n ≠ 1) (hk : kids os n = []) : Wf (os.filter fun x => x.num != n) last := by
  have h0 := h.toWf0.rem h1 hk
  have hp := h0.path_within h.toWf0 fun x hx _ => ⟨x, (mem_wo.1 hx).1, rfl, rfl, rfl⟩
  exact ⟨h0, fun x hx => by rw [← hp x hx]; exact h.short x (mem_wo.1 hx).1, Nat.le_trans (List.length_filter_le _ _) h.len⟩
theorem kids_wo (n d : Int) : kids (os.filter fun x => x.num != n) d = (kids os d).filter fun x => x.num != n := by
  unfold kids
  rw [List.filter_filter, List.filter_filter]
  exact List.filter_congr fun x _ => Bool.and_comm _ _
theorem dirs_wo (n : Int) : dirs (os.filter fun x => x.num != n) = (dirs os).filter fun x => x.num != n := by
  unfold dirs
  rw [List.filter_filter, List.filter_filter]
  exact List.filter_congr fun x _ => Bool.and_comm _ _
theorem TreeAt.removed (h : TreeAt σ p os last) (hw : Wf0 os last) {x : ObjV} (hx : x ∈ os) (h1 : x.num ≠ 1) {σ' : Sto} (hn : σ'.nobj = σ.nobj)
    (hnd : σ'.obj p.nid = .tup ((os.filter fun y => y.num != x.num).map ObjV.ent)) (hin : σ'.obj (p.phi x.dir) = .tup (((kids os x.dir).filter fun y => y.num != x.num).map kidE))
    (hdd : σ'.obj p.did = .tup (((dirs os).filter fun y => y.num != x.num).map (dirE p.phi))) (hrest : ∀ i, i < σ.nobj → i ≠ p.nid → i ≠ p.did → i ≠ p.phi x.dir → σ'.obj i = σ.obj i) :
    TreeAt σ' p (os.filter fun y => y.num != x.num) last ∧ Frm σ σ' p p os (os.filter fun y => y.num != x.num) := by
  obtain ⟨d0, hd0, hd0n, hd0k⟩ := hw.dir x hx h1
  have hd0d : d0 ∈ dirs os := mem_dirs.2 ⟨hd0, hd0k⟩
  obtain ⟨f1, f2, f3⟩ := h.fn d0 hd0d
  rw [hd0n] at f1 f2 f3
  have hin2 : ∀ y ∈ dirs (os.filter fun y => y.num != x.num), y ∈ dirs os := fun y hy => by
    rw [dirs_wo] at hy
    exact (List.mem_filter.1 hy).1
  constructor
  · refine ⟨by rw [hn]; exact h.tl, by rw [hn]; exact h.nl, by rw [hn]; exact h.dl, fun y hy => by rw [hn]; exact h.fl y (hin2 y hy), h.tn, h.td, h.nd, fun y hy => h.fn y (hin2 y hy),
      fun y hy z hz => h.ff y (hin2 y hy) z (hin2 z hz), ?_, hnd, by rw [dirs_wo]; exact hdd, fun y hy => ?_⟩
    · rw [hrest p.t h.tl h.tn h.td (Ne.symm f1)]
      exact h.obj
    · rw [kids_wo]
      by_cases e : y.num = x.dir
      · rw [e]; exact hin
      · obtain ⟨g1, g2, g3⟩ := h.fn y (hin2 y hy)
        rw [hrest _ (h.fl y (hin2 y hy)) g2 g3 fun e2 => e ?_, h.inner y (hin2 y hy)]
        · congr 1
          congr 1
          refine (List.filter_eq_self.2 fun z hz => ?_).symm
          obtain ⟨k1, k2, k3⟩ := mem_kids.1 hz
          have : z.num ≠ x.num := fun e3 => e (by rw [← k2, hw.inj k1 hx e3])
          simpa using this
        · rw [← hd0n] at e2 ⊢
          exact h.ff y (hin2 y hy) d0 hd0d e2
  · refine ⟨by rw [hn]; exact Nat.le_refl _, fun i hi hf => ?_, fun i hi => .inl ?_, rfl⟩
    · exact hrest i hi (fun e => hf (.inr (.inl e))) (fun e => hf (.inr (.inr (.inl e)))) fun e => hf (.inr (.inr (.inr ⟨d0, hd0d, by rw [hd0n]; exact e⟩)))
    · rcases hi with e | e | e | ⟨y, hy, e⟩
      · exact .inl e
      · exact .inr (.inl e)
      · exact .inr (.inr (.inl e))
      · exact .inr (.inr (.inr ⟨y, hin2 y hy, e⟩))
theorem num_apart (hw : Wf0 os last) (n : Int) : os.Pairwise (fun a b => (n == a.num) = true → (n == b.num) = true → False) :=
  hw.sorted.imp fun {a b} hab h1 h2 => by
    have h1 : n = a.num := by simpa using h1
    have h2 : n = b.num := by simpa using h2
    omega
theorem ne_comm_num (n : Int) (l : List ObjV) : (l.filter fun y => !(n == y.num)) = l.filter fun y => y.num != n := List.filter_congr fun x _ => by
  show (!(n == x.num)) = !(x.num == n)
  rw [BEq.comm]
theorem e12 {n : Nat} (hw : Wf os last) (hb : last ≤ 1000) (hn : 2000 ≤ n) (h : TreeAt σ p os last) (k : Int) :
    ∃ σ', ciJ PR n 12 [.obj p.t 0, .int .i64 k] σ = some (.int .i64 (remV os k).2, σ') ∧ TreeAt σ' p (remV os k).1 last ∧ Frm σ σ' p p os (remV os k).1 := by
  obtain ⟨n, rfl⟩ : ∃ m, n = m + 1 := ⟨n - 1, by omega⟩
  have h30 := e30 h (n := n) (by omega)
  have h31 := e31 h (n := n) (by omega) k
  have l0 := h.ld0
  have l1 := h.ld1
  have hD := h.lookD k
  have hL := h.lenK hw.toWf0 k
  have fail : ∀ e, remE os k = e → e ≠ 0 → ciJ PR (n + 1) 12 [.obj p.t 0, .int .i64 k] σ = some (.int .i64 e, σ) →
      ∃ σ', ciJ PR (n + 1) 12 [.obj p.t 0, .int .i64 k] σ = some (.int .i64 (remV os k).2, σ') ∧ TreeAt σ' p (remV os k).1 last ∧ Frm σ σ' p p os (remV os k).1 := fun e h1 h2 h3 => by
    have : remV os k = (os, e) := by unfold remV; rw [h1, if_neg h2]
    rw [this]
    exact ⟨σ, h3, h, Frm.of_kp (Kp.refl σ) p os⟩
  cases hf : fo os k with
  | none =>
    have hh : hasN os k = false := by unfold hasN; rw [hf]; rfl
    refine fail 11 (by unfold remE; rw [hf]) (by decide) ?_
    rw [hh] at h31
    rw [v12]
    generalize getN os k = N at *
    simp -implicitDefEqProofs [D12, h30, h31, -jwrSem.eq_1, -fldSem.eq_1]
  | some r =>
    obtain ⟨i, x⟩ := r
    obtain ⟨hix, hx, rfl⟩ := fo_some hf
    have hh : hasN os x.num = true := by unfold hasN; rw [hf]; rfl
    have hg : getN os x.num = x.node := by unfold getN; rw [hf]
    rw [hh, hg] at h31
    have hE : remE os x.num = if x.num = 1 ∨ kids os x.num ≠ [] then 23 else 0 := by unfold remE; rw [hf]
    by_cases c1 : x.num = 1
    · refine fail 23 (by rw [hE, if_pos (.inl c1)]) (by decide) ?_
      have c1' : (x.num == 1) = true := by simpa using c1
      rw [v12]
      generalize x.node = N at *
      generalize x.num = k at *
      subst c1
      simp -implicitDefEqProofs [D12, h30, h31, -jwrSem.eq_1, -fldSem.eq_1]
    have c1' : (x.num == 1) = false := by simpa using c1
    by_cases c2 : kids os x.num ≠ []
    · refine fail 23 (by rw [hE, if_pos (.inr c2)]) (by decide) ?_
      have c2' : 0 < (kids os x.num).length := List.length_pos_iff.2 c2
      rw [v12]
      generalize x.node = N at *
      generalize dirD os p x.num = DD at *
      simp -implicitDefEqProofs [D12, h30, h31, c1, c1', l1, hD, hL, c2', -jwrSem.eq_1, -fldSem.eq_1]
    replace c2 : kids os x.num = [] := Decidable.not_not.1 c2
    have c2' : ¬ 0 < (kids os x.num).length := by rw [c2]; simp
    have hE0 : remE os x.num = 0 := by rw [hE, if_neg (by simp [c1, c2])]
    have hrv : remV os x.num = (os.filter (fun y => y.num != x.num), 0) := by unfold remV; rw [if_pos hE0]
    rw [hrv]
    obtain ⟨d, hd, hdn, hdk⟩ := hw.dir x hx c1
    have hdm : d ∈ dirs os := mem_dirs.2 ⟨hd, hdk⟩
    obtain ⟨f1, f2, f3⟩ := h.fn d hdm
    have hfl := h.fl d hdm
    have hinn := h.inner d hdm
    rw [hdn] at f1 f2 f3 hfl hinn
    have tn := h.tn
    have td := h.td
    have nd := h.nd
    have htl := h.tl
    have hnl := h.nl
    have hdl := h.dl
    have hxk : x ∈ kids os x.dir := mem_kids.2 ⟨hx, rfl, c1⟩
    obtain ⟨j, hj⟩ := hw.toWf0.kid hxk
    have hD2 := h.lookD x.dir
    rw [show dirD os p x.dir = .map (p.phi x.dir) by unfold dirD; rw [if_pos (List.any_eq_true.2 ⟨d, hdm, by simpa using hdn⟩)]] at hD2
    -- the name goes
    obtain ⟨τ1, e1⟩ : ∃ τ, τ = σ.put (p.phi x.dir) (.tup (((kids os x.dir).filter fun y => y.num != x.num).map kidE)) := ⟨_, rfl⟩
    have s1 : mdelSem false [.s] σ [.map (p.phi x.dir), .str x.name] = some (.tup [], τ1) := by
      rw [del_S (l := kids os x.dir) (key := ObjV.name) (val := fun y => .int .i64 y.num) hfl hinn x.name]
      have hj' : firstAt (fun y : ObjV => x.name == y.name) (kids os x.dir) 0 = some (j, x) := hj
      rw [hj']
      have hap : (kids os x.dir).Pairwise (fun a b => (x.name == a.name) = true → (x.name == b.name) = true → False) := by
        have hs : (kids os x.dir).Pairwise fun a b => a.num < b.num := List.Pairwise.filter _ hw.sorted
        refine hs.imp_of_mem fun {a b} ha hb hab q1 q2 => ?_
        have q1 : x.name = a.name := by simpa using q1
        have q2 : x.name = b.name := by simpa using q2
        have := hw.toWf0.kid_uniq ha hb (q1.symm.trans q2)
        rw [this] at hab
        omega
      have he := erase_first (i := 0) (m := j) (x := x) (by rw [Nat.zero_add]; exact hj') hap
      simp only [he, e1]
      congr 3
      show DVal.tup (((kids os x.dir).filter fun y => !(x.name == y.name)).map kidE) = _
      congr 2
      refine List.filter_congr fun y hy => ?_
      show (!(x.name == y.name)) = !(y.num == x.num)
      congr 1
      rw [Bool.eq_iff_iff, beq_iff_eq, beq_iff_eq]
      exact ⟨fun e => by rw [hw.toWf0.kid_uniq hxk hy e], fun e => by rw [hw.toWf0.inj (mem_kids.1 hy).1 hx e]⟩
    have o1 : ∀ i, i ≠ p.phi x.dir → τ1.obj i = σ.obj i := fun i hi => by rw [e1, Sto.put_obj_ne hi]
    have n1 : τ1.nobj = σ.nobj := by rw [e1]; rfl
    have t1 := (o1 _ (Ne.symm f1)).trans h.obj
    have s2 : ldOSem τ1 none [.obj p.t 1] = some (.map p.did, τ1) := by rw [ld_obj _ t1 (by omega)]; rfl
    have d1 := (o1 _ (Ne.symm f3)).trans h.names
    -- the directory goes, if it is one
    obtain ⟨τ2, e2⟩ : ∃ τ, τ = τ1.put p.did (.tup (((dirs os).filter fun y => y.num != x.num).map (dirE p.phi))) := ⟨_, rfl⟩
    have s3 : mdelSem false [.i .i64] τ1 [.map p.did, .int .i64 x.num] = some (.tup [], τ2) := by
      rw [del_I (l := dirs os) (key := ObjV.num) (val := fun y => .map (p.phi y.num)) (by omega) d1 x.num]
      cases hq : firstAt (fun y : ObjV => x.num == y.num) (dirs os) 0 with
      | none =>
        have hno := firstAt_none hq
        have : (dirs os).filter (fun y => y.num != x.num) = dirs os := List.filter_eq_self.2 fun y hy => by
          have := hno y hy
          rw [BEq.comm] at this
          simp [bne, this]
        rw [e2, this]
        simp only
        rw [put_self d1]
      | some r =>
        obtain ⟨m, y⟩ := r
        have hap : (dirs os).Pairwise (fun a b => (x.num == a.num) = true → (x.num == b.num) = true → False) := List.Pairwise.filter _ (num_apart hw.toWf0 x.num)
        have he := erase_first (i := 0) (m := m) (x := y) (by rw [Nat.zero_add]; exact hq) hap
        simp only [he, e2]
        rw [ne_comm_num]
        rfl
    have o2 : ∀ i, i ≠ p.did → τ2.obj i = τ1.obj i := fun i hi => by rw [e2, Sto.put_obj_ne hi]
    have n2 : τ2.nobj = σ.nobj := by rw [e2]; exact n1
    have t2 := (o2 _ td).trans t1
    have s4 : ldOSem τ2 none [.obj p.t 0] = some (.map p.nid, τ2) := by rw [ld_obj _ t2 (by omega)]; rfl
    have m2 := (o2 _ nd).trans ((o1 _ (Ne.symm f2)).trans h.nodes)
    obtain ⟨τ3, e3⟩ : ∃ τ, τ = τ2.put p.nid (.tup ((os.filter fun y => y.num != x.num).map ObjV.ent)) := ⟨_, rfl⟩
    have s5 : mdelSem false [.i .i64] τ2 [.map p.nid, .int .i64 x.num] = some (.tup [], τ3) := by
      rw [del_I (l := os) (key := ObjV.num) (val := fun y => y.node.d) (by omega) m2 x.num]
      have hq : firstAt (fun y : ObjV => x.num == y.num) os 0 = some (i, x) := hf
      rw [hq]
      have he := erase_first (i := 0) (m := i) (x := x) (by rw [Nat.zero_add]; exact hq) (num_apart hw.toWf0 x.num)
      simp only [he, e3]
      rw [ne_comm_num]
      rfl
    have o3 : ∀ i, i ≠ p.nid → τ3.obj i = τ2.obj i := fun i hi => by rw [e3, Sto.put_obj_ne hi]
    obtain ⟨g1, g2⟩ := h.removed hw.toWf0 hx c1 (σ' := τ3) (by rw [e3]; exact n2) (by rw [e3]; simp) ((o3 _ f2).trans ((o2 _ f3).trans (by rw [e1]; simp))) ((o3 _ (Ne.symm nd)).trans (by rw [e2]; simp))
      (fun i hi a1 a2 a3 => by rw [o3 _ a1, o2 _ a2, o1 _ a3])
    refine ⟨τ3, ?_, g1, g2⟩
    have nu : NodeV.up x.node = x.dir := rfl
    have nn : NodeV.name x.node = x.name := rfl
    rw [v12]
    generalize x.node = N at *
    generalize dirD os p x.num = DD at *
    simp -implicitDefEqProofs [D12, h30, h31, c1, c1', l1, hD, hL, c2', nu, nn, hD2, s1, s2, s3, s4, s5, -jwrSem.eq_1, -fldSem.eq_1]
def relab (n lab : Int) (x : ObjV) : ObjV := if x.num = n then { x with label := lab } else x
def labV (os : List ObjV) (n lab : Int) : List ObjV × Int := if hasN os n then (os.map (relab n lab), 0) else (os, 11)
theorem relab_num (n lab : Int) (x : ObjV) : (relab n lab x).num = x.num := by unfold relab; split <;> rfl
theorem relab_dir (n lab : Int) (x : ObjV) : (relab n lab x).dir = x.dir := by unfold relab; split <;> rfl
theorem relab_name (n lab : Int) (x : ObjV) : (relab n lab x).name = x.name := by unfold relab; split <;> rfl
theorem relab_kind (n lab : Int) (x : ObjV) : (relab n lab x).kind = x.kind := by unfold relab; split <;> rfl
theorem kids_lab (n lab d : Int) : kids (os.map (relab n lab)) d = (kids os d).map (relab n lab) := by
  unfold kids
  rw [List.filter_map]
  congr 1
  exact List.filter_congr fun x _ => by simp [Function.comp, relab_num, relab_dir]
theorem dirs_lab (n lab : Int) : dirs (os.map (relab n lab)) = (dirs os).map (relab n lab) := by
  unfold dirs
  rw [List.filter_map]
  congr 1
  exact List.filter_congr fun x _ => by simp [Function.comp, relab_kind]
theorem Wf0.lab (h : Wf0 os last) (n lab : Int) : Wf0 (os.map (relab n lab)) last := by
  refine ⟨?_, ?_, ?_, ?_, ?_, ?_, ?_⟩
  · obtain ⟨l0, rest, rfl⟩ := h.root
    by_cases e : n = 1
    · exact ⟨lab, rest.map (relab n lab), by simp [relab, e]⟩
    · exact ⟨l0, rest.map (relab n lab), by simp [relab, Ne.symm e]⟩
  · exact List.pairwise_map.2 (h.sorted.imp fun {a b} hab => by rw [relab_num, relab_num]; exact hab)
  · intro x hx
    obtain ⟨y, hy, rfl⟩ := List.mem_map.1 hx
    rw [relab_num]; exact h.top y hy
  · intro x hx h1
    obtain ⟨y, hy, rfl⟩ := List.mem_map.1 hx
    rw [relab_num] at h1
    obtain ⟨d, hd, e1, e2⟩ := h.dir y hy h1
    exact ⟨relab n lab d, List.mem_map.2 ⟨d, hd, rfl⟩, by rw [relab_num, relab_dir]; exact e1, by rw [relab_kind]; exact e2⟩
  · intro x hx h1
    obtain ⟨y, hy, rfl⟩ := List.mem_map.1 hx
    rw [relab_num] at h1 ⊢
    rw [relab_dir]
    exact h.less y hy h1
  · intro x hx h1
    obtain ⟨y, hy, rfl⟩ := List.mem_map.1 hx
    rw [relab_num] at h1
    rw [relab_name]
    exact h.name y hy h1
  · intro x hx y hy h1 h2 e1 e2
    obtain ⟨x0, hx0, rfl⟩ := List.mem_map.1 hx
    obtain ⟨y0, hy0, rfl⟩ := List.mem_map.1 hy
    rw [relab_num] at h1 h2
    rw [relab_dir, relab_dir] at e1
    rw [relab_name, relab_name] at e2
    rw [h.uniq x0 hx0 y0 hy0 h1 h2 e1 e2]
theorem Wf.lab (h : Wf os last) (n lab : Int) : Wf (os.map (relab n lab)) last := by
  have h0 := h.toWf0.lab n lab
  have hp := h0.path_within h.toWf0 fun x hx _ => by
    obtain ⟨y, hy, rfl⟩ := List.mem_map.1 hx
    exact ⟨y, hy, (relab_num _ _ _).symm, (relab_dir _ _ _).symm, (relab_name _ _ _).symm⟩
  refine ⟨h0, fun x hx => ?_, by rw [List.length_map]; exact h.len⟩
  rw [← hp x hx]
  obtain ⟨y, hy, rfl⟩ := List.mem_map.1 hx
  rw [relab_num]
  exact h.short y hy
theorem set_lab : ∀ {os : List ObjV} {i : Nat} {x : ObjV}, os.Pairwise (fun a b => a.num < b.num) → os[i]? = some x → ∀ lab : Int, os.set i { x with label := lab } = os.map (relab x.num lab)
  | [], i, x, _, h, lab => by simp at h
  | a :: os, 0, x, hs, h, lab => by
    simp only [List.getElem?_cons_zero, Option.some.injEq] at h
    subst h
    obtain ⟨h1, h2⟩ := List.pairwise_cons.1 hs
    simp only [List.set_cons_zero, List.map_cons, List.cons.injEq]
    refine ⟨by simp [relab], ?_⟩
    refine ((List.map_congr_left fun y hy => ?_).trans (List.map_id _)).symm
    unfold relab
    rw [if_neg (by have := h1 y hy; omega)]
    rfl
  | a :: os, i + 1, x, hs, h, lab => by
    obtain ⟨h1, h2⟩ := List.pairwise_cons.1 hs
    have hx : x ∈ os := List.mem_of_getElem? (by simpa using h)
    simp only [List.set_cons_succ, List.map_cons, List.cons.injEq]
    refine ⟨?_, set_lab h2 (by simpa using h) lab⟩
    unfold relab
    rw [if_neg (by have := h1 x hx; omega)]
theorem TreeAt.labeled (h : TreeAt σ p os last) (n lab : Int) : TreeAt (σ.put p.nid (.tup ((os.map (relab n lab)).map ObjV.ent))) p (os.map (relab n lab)) last ∧ Frm σ (σ.put p.nid (.tup ((os.map (relab n lab)).map ObjV.ent))) p p os (os.map (relab n lab)) := by
  have hd : ∀ x ∈ dirs (os.map (relab n lab)), ∃ y ∈ dirs os, x = relab n lab y := fun x hx => by
    rw [dirs_lab] at hx
    obtain ⟨y, hy, rfl⟩ := List.mem_map.1 hx
    exact ⟨y, hy, rfl⟩
  constructor
  · refine ⟨h.tl, h.nl, h.dl, fun x hx => ?_, h.tn, h.td, h.nd, fun x hx => ?_, fun x hx y hy => ?_, ?_, by simp, ?_, fun x hx => ?_⟩
    · obtain ⟨y, hy, rfl⟩ := hd x hx
      rw [relab_num]; exact h.fl y hy
    · obtain ⟨y, hy, rfl⟩ := hd x hx
      rw [relab_num]; exact h.fn y hy
    · obtain ⟨x0, hx0, rfl⟩ := hd x hx
      obtain ⟨y0, hy0, rfl⟩ := hd y hy
      rw [relab_num, relab_num]; exact h.ff x0 hx0 y0 hy0
    · rw [Sto.put_obj_ne h.tn]; exact h.obj
    · rw [Sto.put_obj_ne (Ne.symm h.nd), dirs_lab, List.map_map, h.names]
      congr 1
      refine List.map_congr_left fun y _ => ?_
      show dirE p.phi y = dirE p.phi (relab n lab y)
      unfold dirE; rw [relab_num]
    · obtain ⟨y, hy, rfl⟩ := hd x hx
      rw [relab_num, Sto.put_obj_ne (h.fn y hy).2.1, kids_lab, List.map_map, h.inner y hy]
      congr 1
      refine List.map_congr_left fun z _ => ?_
      show kidE z = kidE (relab n lab z)
      unfold kidE; rw [relab_num, relab_name]
  · refine ⟨Nat.le_refl _, fun i hi hf => Sto.put_obj_ne fun e => hf (.inr (.inl e)), fun i hi => .inl ?_, rfl⟩
    rcases hi with e | e | e | ⟨x, hx, e⟩
    · exact .inl e
    · exact .inr (.inl e)
    · exact .inr (.inr (.inl e))
    · obtain ⟨y, hy, rfl⟩ := hd x hx
      rw [relab_num] at e
      exact .inr (.inr (.inr ⟨y, hy, e⟩))
theorem e29 {n : Nat} (hw : Wf os last) (hn : 2000 ≤ n) (h : TreeAt σ p os last) (k lab : Int) :
    ∃ σ', ciJ PR n 29 [.obj p.t 0, .int .i64 k, .int .i64 lab] σ = some (.int .i64 (labV os k lab).2, σ') ∧ TreeAt σ' p (labV os k lab).1 last ∧ Frm σ σ' p p os (labV os k lab).1 := by
  obtain ⟨n, rfl⟩ : ∃ m, n = m + 1 := ⟨n - 1, by omega⟩
  have h30 := e30 h (n := n) (by omega)
  have h31 := e31 h (n := n) (by omega) k
  have l0 := h.ld0
  unfold labV
  cases hf : fo os k with
  | none =>
    have hh : hasN os k = false := by unfold hasN; rw [hf]; rfl
    rw [hh] at h31 ⊢
    refine ⟨σ, ?_, h, Frm.of_kp (Kp.refl σ) p os⟩
    rw [v29]
    generalize getN os k = N at *
    simp -implicitDefEqProofs [D29, h30, h31, -jwrSem.eq_1, -fldSem.eq_1]
  | some r =>
    obtain ⟨i, x⟩ := r
    obtain ⟨hix, hx, rfl⟩ := fo_some hf
    have hh : hasN os x.num = true := by unfold hasN; rw [hf]; rfl
    have hg : getN os x.num = x.node := by unfold getN; rw [hf]
    rw [hh, hg] at h31
    rw [hh]
    obtain ⟨g1, g2⟩ := h.labeled x.num lab
    have s1 : mupdSem false [.i .i64] σ [.map p.nid, .int .i64 x.num, ({ x.node with label := lab } : NodeV).d] = some (.undef, σ.put p.nid (.tup ((os.map (relab x.num lab)).map ObjV.ent))) := by
      rw [upd_I (l := os) (key := ObjV.num) (val := fun y => y.node.d) h.nl h.nodes x.num (NodeV_okVal _)]
      have hq : firstAt (fun y : ObjV => x.num == y.num) os 0 = some (i, x) := hf
      rw [hq, ← set_lab hw.sorted hix lab, List.map_set]
      rfl
    refine ⟨_, ?_, g1, g2⟩
    rw [v29]
    generalize x.node = N at *
    generalize σ.put p.nid (.tup ((os.map (relab x.num lab)).map ObjV.ent)) = τ at *
    simp -implicitDefEqProofs [D29, h30, h31, l0, s1, -jwrSem.eq_1, -fldSem.eq_1]
end
theorem wf_root (lab : Int) : Wf [⟨1, 0, [], 2, lab⟩] 1 := by
  refine ⟨⟨⟨lab, [], rfl⟩, by simp, by simp, ?_, ?_, ?_, ?_⟩, ?_, by simp⟩
  · intro x hx h1; simp only [List.mem_cons, List.not_mem_nil, or_false] at hx; subst hx; exact absurd rfl h1
  · intro x hx h1; simp only [List.mem_cons, List.not_mem_nil, or_false] at hx; subst hx; exact absurd rfl h1
  · intro x hx h1; simp only [List.mem_cons, List.not_mem_nil, or_false] at hx; subst hx; exact absurd rfl h1
  · intro x hx y hy _ _ _ _; simp only [List.mem_cons, List.not_mem_nil, or_false] at hx hy; rw [hx, hy]
  · intro x hx; simp only [List.mem_cons, List.not_mem_nil, or_false] at hx; subst hx; rw [path_root]; simp
def newP (σ : Sto) : Pl := ⟨σ.nobj + 3, σ.nobj, σ.nobj + 1, fun _ => σ.nobj + 2⟩
theorem e9 {n : Nat} (hn : 1 ≤ n) (σ : Sto) (lab : Int) : ∃ σ', ciJ PR n 9 [.int .i64 lab] σ = some (.obj (σ.nobj + 3) 0, σ') ∧ TreeAt σ' (newP σ) [⟨1, 0, [], 2, lab⟩] 1 ∧ Kp σ σ' := by
  obtain ⟨n, rfl⟩ : ∃ m, n = m + 1 := ⟨n - 1, by omega⟩
  obtain ⟨τ1, e1⟩ : ∃ τ, τ = σ.new (.tup []) := ⟨_, rfl⟩
  have s1 : mkmapSem σ [] = some (.map σ.nobj, τ1) := by rw [e1]; rfl
  have n1 : τ1.nobj = σ.nobj + 1 := by rw [e1]; rfl
  obtain ⟨τ2, e2⟩ : ∃ τ, τ = τ1.put σ.nobj (.tup [.tup [.int .i64 1, (⟨0, [], 2, lab⟩ : NodeV).d]]) := ⟨_, rfl⟩
  have c1 : τ1.obj σ.nobj = .tup [] := by rw [e1]; simp
  have s2 : mupdSem false [.i .i64] τ1 [.map σ.nobj, .int .i64 1, (⟨0, [], 2, lab⟩ : NodeV).d] = some (.undef, τ2) := by
    rw [upd_I (l := ([] : List ObjV)) (key := ObjV.num) (val := fun y => y.node.d) (by omega) c1 1 (NodeV_okVal _), e2]
    rfl
  have n2 : τ2.nobj = σ.nobj + 1 := by rw [e2]; exact n1
  obtain ⟨τ3, e3⟩ : ∃ τ, τ = τ2.new (.tup []) := ⟨_, rfl⟩
  have s3 : mkmapSem τ2 [] = some (.map (σ.nobj + 1), τ3) := by rw [e3, ← n2]; rfl
  have n3 : τ3.nobj = σ.nobj + 2 := by rw [e3]; show τ2.nobj + 1 = _; rw [n2]
  obtain ⟨τ4, e4⟩ : ∃ τ, τ = τ3.new (.tup []) := ⟨_, rfl⟩
  have s4 : mkmapSem τ3 [] = some (.map (σ.nobj + 2), τ4) := by rw [e4, ← n3]; rfl
  have n4 : τ4.nobj = σ.nobj + 3 := by rw [e4]; show τ3.nobj + 1 = _; rw [n3]
  have c3 : τ3.obj (σ.nobj + 1) = .tup [] := by rw [e3, ← n2]; simp
  have c4 : τ4.obj (σ.nobj + 1) = .tup [] := by rw [e4, Sto.new_obj_ne (by omega)]; exact c3
  obtain ⟨τ5, e5⟩ : ∃ τ, τ = τ4.put (σ.nobj + 1) (.tup [.tup [.int .i64 1, .map (σ.nobj + 2)]]) := ⟨_, rfl⟩
  have s5 : mupdSem false [.i .i64] τ4 [.map (σ.nobj + 1), .int .i64 1, .map (σ.nobj + 2)] = some (.undef, τ5) := by
    rw [upd_I (l := ([] : List ObjV)) (key := ObjV.num) (val := fun y => y.node.d) (by omega) c4 1 rfl, e5]
    rfl
  have n5 : τ5.nobj = σ.nobj + 3 := by rw [e5]; exact n4
  obtain ⟨τ6, e6⟩ : ∃ τ, τ = τ5.new (.agg [.map σ.nobj, .map (σ.nobj + 1), .int .i64 2]) := ⟨_, rfl⟩
  have s6 : boxOSem τ5 [.agg [.map σ.nobj, .map (σ.nobj + 1), .int .i64 2]] = some (.obj (σ.nobj + 3) 0, τ6) := by rw [e6, ← n5]; rfl
  have n6 : τ6.nobj = σ.nobj + 4 := by rw [e6]; show τ5.nobj + 1 = _; rw [n5]
  have q0 : τ6.obj (σ.nobj + 3) = .agg [.map σ.nobj, .map (σ.nobj + 1), .int .i64 2] := by rw [e6, ← n5]; simp
  have q1 : τ6.obj σ.nobj = .tup [.tup [.int .i64 1, (⟨0, [], 2, lab⟩ : NodeV).d]] := by
    rw [e6, Sto.new_obj_ne (by omega), e5, Sto.put_obj_ne (by omega), e4, Sto.new_obj_ne (by omega), e3, Sto.new_obj_ne (by omega), e2]; simp
  have q2 : τ6.obj (σ.nobj + 1) = .tup [.tup [.int .i64 1, .map (σ.nobj + 2)]] := by
    rw [e6, Sto.new_obj_ne (by omega), e5]; simp
  have q3 : τ6.obj (σ.nobj + 2) = .tup [] := by
    rw [e6, Sto.new_obj_ne (by omega), e5, Sto.put_obj_ne (by omega), e4, ← n3]; simp
  refine ⟨τ6, ?_, ⟨by show _ < τ6.nobj; rw [n6]; show σ.nobj + 3 < _; omega, by show _ < τ6.nobj; rw [n6]; show σ.nobj < _; omega, by show _ < τ6.nobj; rw [n6]; show σ.nobj + 1 < _; omega, fun x hx => by show σ.nobj + 2 < τ6.nobj; omega,
    by show σ.nobj + 3 ≠ σ.nobj; omega, by show σ.nobj + 3 ≠ σ.nobj + 1; omega, by show σ.nobj ≠ σ.nobj + 1; omega, fun x hx => ⟨by show σ.nobj + 2 ≠ σ.nobj + 3; omega, by show σ.nobj + 2 ≠ σ.nobj; omega, by show σ.nobj + 2 ≠ σ.nobj + 1; omega⟩, fun x hx y hy _ => ?_, q0, q1, q2, fun x hx => ?_⟩, by omega, fun i hi => ?_⟩
  · rw [v9]
    simp -implicitDefEqProofs [D9, s1]
    have hbd : (DVal.agg [.int .i64 0, .str [], .int .i64 2, .int .i64 lab]) = (⟨0, [], 2, lab⟩ : NodeV).d := rfl
    rw [hbd]
    generalize (⟨0, [], 2, lab⟩ : NodeV).d = ND at *
    simp -implicitDefEqProofs [s2, s3, s4, s5, s6]
  · have h1 := (mem_dirs.1 hx).1
    have h2 := (mem_dirs.1 hy).1
    simp only [List.mem_cons, List.not_mem_nil, or_false] at h1 h2
    rw [h1, h2]
  · have h1 := (mem_dirs.1 hx).1
    simp only [List.mem_cons, List.not_mem_nil, or_false] at h1
    subst h1
    exact q3
  · rw [e6, Sto.new_obj_ne (by omega), e5, Sto.put_obj_ne (by omega), e4, Sto.new_obj_ne (by omega), e3, Sto.new_obj_ne (by omega), e2, Sto.put_obj_ne (by omega), e1, Sto.new_obj_ne (by omega)]
end Go.Proofs.YtklepphkbbjbjaaDoor
namespace Go.Proofs.YtklepphkbbjbjaaDoor
set_option linter.unusedVariables false
set_option linter.unusedSimpArgs false
set_option maxRecDepth 20000
set_option maxHeartbeats 8000000
open Go
@[simp] theorem slO_eq (s : Sl ObjV) : slOf 5 ObjV.row s = slD s.z 5 (s.l.map ObjV.row) := rfl
theorem firstAt_find {α : Type} {p : α → Bool} : ∀ (l : List α) (i : Nat), (firstAt p l i).map Prod.snd = l.find? p
  | [], _ => rfl
  | x :: l, i => by
    rw [firstAt, List.find?_cons]
    by_cases h : p x = true
    · rw [if_pos h, h]; rfl
    · rw [if_neg h, firstAt_find l (i + 1)]
      simp only [Bool.not_eq_true] at h
      rw [h]
def idxI (os : List ObjV) (k : Int) : Int := match fo os k with
  | some (i, _) => i
  | none => -1
theorem l39 {n : Nat} (s : StaV) (hl : s.objs.l.length ≤ 1000000) (k : Int) (σ : Sto) : ∀ (r i m : Nat), i + r = s.objs.l.length → r < m →
    iterJ 0 (L39_0 (cpJ PR n) (ciJ PR n) n (.int .i64 k) s.d) m [.int .i64 i, .int .i64 0] σ =
      some (.done (.int .i64 (match firstAt (fun x => k == x.num) (s.objs.l.drop i) i with | some (j, _) => (j : Int) | none => -1)) σ) := by
  intro r
  induction r with
  | zero =>
    intro i m hi hm
    obtain ⟨m, rfl⟩ : ∃ q, m = q + 1 := ⟨m - 1, by omega⟩
    have hi' : ¬ ((i : Int) < s.objs.l.length) := by omega
    rw [List.drop_eq_nil_of_le (by omega)]
    refine iterJ_done ?_
    simp -implicitDefEqProofs [L39_0, B39_0, hi', firstAt]
  | succ r ih =>
    intro i m hi hm
    obtain ⟨m, rfl⟩ : ∃ q, m = q + 1 := ⟨m - 1, by omega⟩
    have hi' : ((i : Int) < s.objs.l.length) := by omega
    obtain ⟨x, hx⟩ := get_some (by omega : i < s.objs.l.length)
    have hw := wrap_succ (i := i) (by omega)
    simp only [Int.natCast_add, Int.natCast_one] at hw
    rw [drop_get hx, firstAt]
    by_cases e : x.num = k
    · have e1 : (x.num == k) = true := by simpa using e
      have e2 : (k == x.num) = true := by simpa using e.symm
      rw [if_pos e2]
      refine iterJ_done ?_
      simp -implicitDefEqProofs [L39_0, B39_0, hi', hx, e, e1]
    · have e1 : (x.num == k) = false := by simpa using e
      have e2 : (k == x.num) = false := by simpa using Ne.symm e
      rw [if_neg (by rw [e2]; simp)]
      rw [iterJ_next' (vs' := [.int .i64 ((i + 1 : Nat) : Int), .int .i64 0]) (σ' := σ) ?_, ih (i + 1) m (by omega) (by omega)]
      simp -implicitDefEqProofs [L39_0, B39_0, hi', hx, e, e1, hw]
theorem e39 {n : Nat} (s : StaV) (hl : s.objs.l.length ≤ 1000000) (hn : s.objs.l.length + 2 ≤ n) (k : Int) : cpJ PR n 39 [s.d, .int .i64 k] = some (.int .i64 (idxI s.objs.l k)) := by
  obtain ⟨n, rfl⟩ : ∃ m, n = m + 1 := ⟨n - 1, by omega⟩
  have h := l39 (n := n) s hl k emptySto s.objs.l.length 0 n (by omega) (by omega)
  simp only [Int.natCast_zero, List.drop_zero] at h
  rw [u39]
  unfold idxI fo
  simp -implicitDefEqProofs [D39, h]
def childA (os : List ObjV) (d : Int) (q : Bs) : Int := match os.find? (fun x => x.dir == d && x.name == q && x.num != 1) with
  | some x => x.num
  | none => 0
theorem kid_find (os : List ObjV) (d : Int) (q : Bs) : (kid os d q).map Prod.snd = os.find? (fun x => x.dir == d && x.name == q && x.num != 1) := by
  unfold kid kids
  rw [firstAt_find, List.find?_filter]
  congr 1
  funext x
  rw [BEq.comm (a := q)]
  cases (x.dir == d) <;> cases (x.name == q) <;> cases (x.num != 1) <;> rfl
theorem childA_kid (os : List ObjV) (d : Int) (q : Bs) : childA os d q = match kid os d q with | some (_, x) => x.num | none => 0 := by
  unfold childA
  rw [← kid_find]
  cases kid os d q <;> rfl
theorem l50 {n : Nat} (s : StaV) (hl : s.objs.l.length ≤ 1000000) (d : Int) (q : Bs) (σ : Sto) : ∀ (r i m : Nat), i + r = s.objs.l.length → r < m →
    iterJ 0 (L50_0 (cpJ PR n) (ciJ PR n) n (.int .i64 d) (.str q) s.d) m [.int .i64 i, .int .i64 0] σ = some (.done (.int .i64 (childA (s.objs.l.drop i) d q)) σ) := by
  intro r
  induction r with
  | zero =>
    intro i m hi hm
    obtain ⟨m, rfl⟩ : ∃ q, m = q + 1 := ⟨m - 1, by omega⟩
    have hi' : ¬ ((i : Int) < s.objs.l.length) := by omega
    rw [List.drop_eq_nil_of_le (by omega)]
    refine iterJ_done ?_
    simp -implicitDefEqProofs [L50_0, B50_0, hi', childA]
  | succ r ih =>
    intro i m hi hm
    obtain ⟨m, rfl⟩ : ∃ q, m = q + 1 := ⟨m - 1, by omega⟩
    have hi' : ((i : Int) < s.objs.l.length) := by omega
    obtain ⟨x, hx⟩ := get_some (by omega : i < s.objs.l.length)
    have hw := wrap_succ (i := i) (by omega)
    simp only [Int.natCast_add, Int.natCast_one] at hw
    have hc : childA (x :: s.objs.l.drop (i + 1)) d q = if (x.dir == d && x.name == q && x.num != 1) = true then x.num else childA (s.objs.l.drop (i + 1)) d q := by
      unfold childA
      rw [List.find?_cons]
      cases (x.dir == d && x.name == q && x.num != 1) <;> rfl
    rw [drop_get hx, hc]
    have hi2 := ih (i + 1) m (by omega) (by omega)
    cases b1 : (x.dir == d) with
    | false =>
      have b1' : ¬ x.dir = d := by simpa using b1
      rw [if_neg (by simp), iterJ_next' (vs' := [.int .i64 ((i + 1 : Nat) : Int), .int .i64 0]) (σ' := σ) ?_, hi2]
      simp -implicitDefEqProofs [L50_0, B50_0, hi', hx, b1, b1', hw]
    | true =>
    have b1' : x.dir = d := by simpa using b1
    cases b2 : (x.name == q) with
    | false =>
      have b2' : ¬ x.name = q := by simpa using b2
      rw [if_neg (by simp), iterJ_next' (vs' := [.int .i64 ((i + 1 : Nat) : Int), .int .i64 0]) (σ' := σ) ?_, hi2]
      simp -implicitDefEqProofs [L50_0, B50_0, hi', hx, b1, b1', b2, b2', hw]
    | true =>
    have b2' : x.name = q := by simpa using b2
    cases b3 : (x.num == 1) with
    | true =>
      have b3' : x.num = 1 := by simpa using b3
      rw [if_neg (by simp [bne, b3]), iterJ_next' (vs' := [.int .i64 ((i + 1 : Nat) : Int), .int .i64 0]) (σ' := σ) ?_, hi2]
      simp -implicitDefEqProofs [L50_0, B50_0, hi', hx, b1, b1', b2, b2', b3, b3', hw]
    | false =>
      have b3' : ¬ x.num = 1 := by simpa using b3
      rw [if_pos (by simp [bne, b3])]
      refine iterJ_done ?_
      simp -implicitDefEqProofs [L50_0, B50_0, hi', hx, b1, b1', b2, b2', b3, b3', hw]
theorem e50 {n : Nat} (s : StaV) (hl : s.objs.l.length ≤ 1000000) (hn : s.objs.l.length + 2 ≤ n) (d : Int) (q : Bs) : cpJ PR n 50 [s.d, .int .i64 d, .str q] = some (.int .i64 (childA s.objs.l d q)) := by
  obtain ⟨n, rfl⟩ : ∃ m, n = m + 1 := ⟨n - 1, by omega⟩
  have h := l50 (n := n) s hl d q emptySto s.objs.l.length 0 n (by omega) (by omega)
  simp only [Int.natCast_zero, List.drop_zero] at h
  rw [u50]
  simp -implicitDefEqProofs [D50, h]
section
variable {os : List ObjV} {last : Int}
theorem e19 {n : Nat} (s : StaV) (hl : s.objs.l.length ≤ 1000000) (hn : s.objs.l.length + 3 ≤ n) (k : Int) : cpJ PR n 19 [s.d, .int .i64 k] = some (.tup [.int .i64 (getN s.objs.l k).kind, .bool (hasN s.objs.l k)]) := by
  obtain ⟨n, rfl⟩ : ∃ m, n = m + 1 := ⟨n - 1, by omega⟩
  have h := e39 (n := n) s hl (by omega) k
  rw [u19]
  unfold idxI at h
  unfold getN hasN
  cases hf : fo s.objs.l k with
  | none => rw [hf] at h; simp -implicitDefEqProofs [D19, h, zeroN]
  | some r =>
    obtain ⟨i, x⟩ := r
    rw [hf] at h
    obtain ⟨hx, -, -⟩ := fo_some hf
    have h0 : ¬ ((i : Int) < 0) := by omega
    simp -implicitDefEqProofs [D19, h, hx, h0, ObjV.node]
theorem e43 {n : Nat} (s : StaV) (hl : s.objs.l.length ≤ 1000000) (hn : s.objs.l.length + 3 ≤ n) (k : Int) : cpJ PR n 43 [s.d, .int .i64 k] = some (.tup [.int .i64 (getN s.objs.l k).label, .bool (hasN s.objs.l k)]) := by
  obtain ⟨n, rfl⟩ : ∃ m, n = m + 1 := ⟨n - 1, by omega⟩
  have h := e39 (n := n) s hl (by omega) k
  rw [u43]
  unfold idxI at h
  unfold getN hasN
  cases hf : fo s.objs.l k with
  | none => rw [hf] at h; simp -implicitDefEqProofs [D43, h, zeroN]
  | some r =>
    obtain ⟨i, x⟩ := r
    rw [hf] at h
    obtain ⟨hx, -, -⟩ := fo_some hf
    have h0 : ¬ ((i : Int) < 0) := by omega
    simp -implicitDefEqProofs [D43, h, hx, h0, ObjV.node]
theorem e44 {n : Nat} (s : StaV) (hl : s.objs.l.length ≤ 1000000) (hn : s.objs.l.length + 3 ≤ n) (k : Int) : cpJ PR n 44 [s.d, .int .i64 k] = some (.tup [.int .i64 (getN s.objs.l k).up, .bool (hasN s.objs.l k)]) := by
  obtain ⟨n, rfl⟩ : ∃ m, n = m + 1 := ⟨n - 1, by omega⟩
  have h := e39 (n := n) s hl (by omega) k
  rw [u44]
  unfold idxI at h
  unfold getN hasN
  cases hf : fo s.objs.l k with
  | none => rw [hf] at h; simp -implicitDefEqProofs [D44, h, zeroN]
  | some r =>
    obtain ⟨i, x⟩ := r
    rw [hf] at h
    obtain ⟨hx, -, -⟩ := fo_some hf
    have h0 : ¬ ((i : Int) < 0) := by omega
    simp -implicitDefEqProofs [D44, h, hx, h0, ObjV.node]
theorem path_ne (h : Wf0 os last) {x : ObjV} (hx : x ∈ os) (h1 : x.num ≠ 1) : path os x.num ≠ [] ∧ path os x.num ≠ [47] := by
  rw [h.path_step hx h1]
  have hn := h.name x hx h1
  simp only [nameV, Bool.and_eq_true, decide_eq_true_eq] at hn
  constructor
  · simp
  · intro e
    have := congrArg List.length e
    simp at this
    omega
theorem p38 {n0 : Nat} (s : StaV) (h : Wf s.objs.l last) (hn0 : 300 ≤ n0) : ∀ x ∈ s.objs.l, ∀ n, n0 + x.num.toNat ≤ n → cpJ PR n 38 [s.d, .int .i64 x.num] = some (.tup [.str (rpath s.objs.l x.num), .bool true]) := by
  have hlen := h.len
  have look : ∀ n, 299 ≤ n → ∀ x ∈ s.objs.l, ∃ i : Nat, cpJ PR n 39 [s.d, .int .i64 x.num] = some (.int .i64 i) ∧ s.objs.l[i]? = some x := fun n hn x hx => by
    obtain ⟨i, hf, hix⟩ := h.toWf0.fo hx
    have := e39 (n := n) s (by omega) (by omega) x.num
    unfold idxI at this
    rw [hf] at this
    exact ⟨i, this, hix⟩
  refine h.toWf0.ind (P := fun k => ∀ n, n0 + k.toNat ≤ n → cpJ PR n 38 [s.d, .int .i64 k] = some (.tup [.str (rpath s.objs.l k), .bool true])) (fun n hn => ?_) fun x hx h1 ih n hn => ?_
  · obtain ⟨n, rfl⟩ : ∃ m, n = m + 1 := ⟨n - 1, by omega⟩
    obtain ⟨x, hx, e, -⟩ := h.toWf0.one
    obtain ⟨i, h39, hix⟩ := look n (by omega) x hx
    rw [e] at h39
    have h0 : ¬ ((i : Int) < 0) := by omega
    rw [u38]
    unfold rpath
    rw [if_pos rfl]
    simp -implicitDefEqProofs [D38, h39, h0]
  · obtain ⟨n, rfl⟩ : ∃ m, n = m + 1 := ⟨n - 1, by omega⟩
    obtain ⟨d, hd, e1, -, h2, h3⟩ := h.toWf0.up hx h1
    obtain ⟨i, h39, hix⟩ := look n (by omega) x hx
    have h0 : ¬ ((i : Int) < 0) := by omega
    have h1' : (x.num == 1) = false := by simpa using h1
    have hup := ih n (by omega)
    have hps := h.short d hd
    rw [e1] at hps
    have hnm : x.name.length ≤ 32 := by
      have := h.name x hx h1
      simp only [nameV, Bool.and_eq_true, decide_eq_true_eq] at this
      exact this.1.2
    have hr : rpath s.objs.l x.num = (path s.objs.l x.dir ++ [47]) ++ x.name := by
      unfold rpath
      rw [if_neg h1, h.toWf0.path_step hx h1]
      simp
    have a1 : binStr .add (path s.objs.l x.dir) [47] = some (.str (path s.objs.l x.dir ++ [47])) := addS (by simp; omega)
    have a2 : binStr .add (path s.objs.l x.dir ++ [47]) x.name = some (.str ((path s.objs.l x.dir ++ [47]) ++ x.name)) := addS (by simp; omega)
    rw [hr, u38]
    by_cases hd1 : x.dir = 1
    · have hp1 : path s.objs.l x.dir = [] := by rw [hd1]; exact path_root _
      have hr1 : rpath s.objs.l x.dir = [47] := by unfold rpath; rw [if_pos hd1]
      rw [hp1] at a1 a2 ⊢
      simp only [List.nil_append] at a1 a2 ⊢
      rw [hr1] at hup
      simp -implicitDefEqProofs [D38, L38_0, J38_0, h39, h0, h1, h1', hix, hup, a1, a2, -binStr.eq_1]
    · obtain ⟨k1, k2⟩ := path_ne h.toWf0 hd (by rw [e1]; exact hd1)
      rw [e1] at k1 k2
      have hr1 : rpath s.objs.l x.dir = path s.objs.l x.dir := by unfold rpath; rw [if_neg hd1]
      have k3 : (path s.objs.l x.dir == [47]) = false := by simpa using k2
      rw [hr1] at hup
      generalize path s.objs.l x.dir = PA at *
      simp -implicitDefEqProofs [D38, L38_0, J38_0, h39, h0, h1, h1', hix, hup, k2, k3, a1, a2, -binStr.eq_1]
theorem e38 {n : Nat} (s : StaV) (h : Wf s.objs.l last) (hb : last ≤ 1000) (hn : 1400 ≤ n) (k : Int) : cpJ PR n 38 [s.d, .int .i64 k] = some (.tup [.str (pathA s.objs.l k).1, .bool (pathA s.objs.l k).2]) := by
  unfold pathA
  cases hf : fo s.objs.l k with
  | none =>
    have hh : hasN s.objs.l k = false := by unfold hasN; rw [hf]; rfl
    obtain ⟨n, rfl⟩ : ∃ m, n = m + 1 := ⟨n - 1, by omega⟩
    have hlen := h.len
    have h39 := e39 (n := n) s (by omega) (by omega) k
    unfold idxI at h39
    rw [hf] at h39
    rw [hh, u38]
    simp -implicitDefEqProofs [D38, h39]
  | some r =>
    obtain ⟨i, x⟩ := r
    obtain ⟨-, hx, rfl⟩ := fo_some hf
    have hh : hasN s.objs.l x.num = true := by unfold hasN; rw [hf]; rfl
    have := h.top x hx
    rw [hh, p38 (n0 := 300) s h (by omega) x hx n (by omega)]
    rfl
theorem fnd_snoc (q : Bs) : ∀ (r : List Bs) (n : Int), fnd os n (r ++ [q]) = (fnd os n r).bind fun m => (kid os m q).map fun y => y.2.num
  | [], n => by
    simp only [List.nil_append, fnd, Option.bind_some]
    cases kid os n q <;> rfl
  | a :: r, n => by
    simp only [List.cons_append, fnd]
    cases kid os n a with
    | none => rfl
    | some y => exact fnd_snoc q r y.2.num
theorem Wf0.fnd_names (h : Wf0 os last) : ∀ x ∈ os, fnd os 1 (names os x.num) = some x.num := by
  refine h.ind (P := fun k => fnd os 1 (names os k) = some k) (by rw [names_root]; rfl) fun x hx h1 ih => ?_
  rw [h.names_step hx h1, fnd_snoc, ih]
  obtain ⟨i, hk⟩ := h.kid (mem_kids.2 ⟨hx, rfl, h1⟩)
  simp [hk]
theorem Wf0.names_no (h : Wf0 os last) : ∀ x ∈ os, ∀ q ∈ names os x.num, 47 ∉ q := by
  refine h.ind (P := fun k => ∀ q ∈ names os k, 47 ∉ q) (by rw [names_root]; simp) fun x hx h1 ih q hq => ?_
  rw [h.names_step hx h1] at hq
  rcases List.mem_append.1 hq with hq | hq
  · exact ih q hq
  · simp only [List.mem_cons, List.not_mem_nil, or_false] at hq
    subst hq
    have := h.name x hx h1
    simp only [nameV, Bool.and_eq_true] at this
    exact all_no this.2
end
end Go.Proofs.YtklepphkbbjbjaaDoor
namespace Go.Proofs.YtklepphkbbjbjaaDoor
set_option linter.unusedVariables false
set_option linter.unusedSimpArgs false
set_option maxRecDepth 20000
set_option maxHeartbeats 8000000
open Go Go.Sort
theorem ld_l {σ : Sto} {id i : Nat} {cs : List DVal} {v : DVal} (ho : σ.obj id = .agg cs) (hid : id < σ.nobj) (h : cs[i]? = some v) : ldOSem σ none [.obj id i] = some (v, σ) := by
  rw [ld_obj none ho hid]
  simp [readCells, h]
theorem st_l {σ : Sto} {id i : Nat} {cs : List DVal} {v : DVal} (ho : σ.obj id = .agg cs) (hid : id < σ.nobj) (h : i < cs.length) (hc : v.cells = [v]) (hv : v.okCell = true) : stOSem σ 1 [.obj id i, v] = some (.undef, σ.put id (.agg (cs.set i v))) := by
  have hw : writeCells cs i [v] = some (cs.set i v) := by
    unfold writeCells
    rw [if_pos (by simp only [List.length_cons, List.length_nil]; omega), List.set_eq_take_append_cons_drop, if_pos h]
    simp
  simp only [stOSem, hid, hc, List.length_cons, List.length_nil, Nat.zero_add, List.all_cons, List.all_nil, hv, Bool.and_true, and_self, if_true, ho, hw]
  rfl
def Acc (τ : Sto) (v : DVal) (cs : List DVal) : Prop := (v = .nils ∧ cs = []) ∨ ∃ id, v = .mslice 1 id 0 cs.length none ∧ id < τ.nobj ∧ τ.obj id = .agg cs
theorem acc_app {τ : Sto} {v : DVal} {cs : List DVal} (c : DVal) (h : Acc τ v cs) (hl : cs.length ≤ 1000000) :
    ∃ τ', appXSem 1 τ [v, .slice false 1 1 [[c]]] = some (.mslice 1 τ.nobj 0 (cs.length + 1) none, τ') ∧ τ'.nobj = τ.nobj + 1 ∧ τ'.obj τ.nobj = .agg (cs ++ [c]) ∧ ∀ j, j < τ.nobj → (∀ id, v = .mslice 1 id 0 cs.length none → j ≠ id) → τ'.obj j = τ.obj j := by
  rcases h with ⟨rfl, rfl⟩ | ⟨id, rfl, hid, ho⟩
  · refine ⟨{ τ with nobj := τ.nobj + 1, obj := upd τ.obj τ.nobj (.agg [c]) }, ?_, rfl, by simp [upd], fun j hj _ => by simp [upd]; omega⟩
    simp [appXSem, appMSem, elemsM, elemsOf, DVal.szOk, tightOf, maxAppend]
  · refine ⟨{ τ with nobj := τ.nobj + 1, obj := upd (upd τ.obj id .undef) τ.nobj (.agg (cs ++ [c])) }, ?_, rfl, by simp [upd], fun j hj hne => ?_⟩
    · have h3 : cs.length + 1 ≤ maxAppend := by simp [maxAppend]; omega
      simp [appXSem, elemsOf, DVal.szOk, ho, hid, h3]
    · have := hne id rfl
      simp only [upd]
      rw [if_neg (by omega), if_neg this]
theorem swap_set {α β : Type} (f : α → β) (y x : α) (Q : List α) : ∀ (P : List α), ((((P ++ y :: x :: Q).map f).set (P.length + 1) (f y)).set P.length (f x)) = (P ++ x :: y :: Q).map f
  | [] => rfl
  | a :: P => by
    have := swap_set f y x Q P
    simp only [List.cons_append, List.map_cons, List.length_cons, List.set_cons_succ]
    rw [this]
section
variable {n : Nat}
theorem l22_0 {i : Nat} (hi : i < 1000000) {idl idn k : Nat} (hne : idl ≠ idn) {x : ObjV} : ∀ (j : Nat) (P Q : List ObjV) (m : Nat) (τ : Sto), P.length = j → j < m → k = (P ++ x :: Q).length → k < 1000000 → idl < τ.nobj → idn < τ.nobj →
    τ.obj idl = .agg ((P ++ x :: Q).map fun y => .int .i64 y.num) → τ.obj idn = .agg ((P ++ x :: Q).map fun y => .str y.name) → (∀ b ∈ Q.head?, x.name < b.name) → Srt P →
    ∃ τ', iterJ 1 (L22_0 (cpJ PR n) (ciJ PR n) n (.int .i64 i) (.mslice 1 idl 0 k none) (.mslice 1 idn 0 k none)) m [.int .i64 j] τ = some (.next 0 [.int .i64 ((i + 1 : Nat) : Int), .mslice 1 idn 0 k none, .mslice 1 idl 0 k none] τ') ∧
      τ'.nobj = τ.nobj ∧ τ'.obj idl = .agg ((ins x (P ++ Q)).map fun y => .int .i64 y.num) ∧ τ'.obj idn = .agg ((ins x (P ++ Q)).map fun y => .str y.name) := by
  have hw : IntKind.i64.wrap ((i : Int) + 1) = ((i + 1 : Nat) : Int) := wrap_succ (by omega)
  simp only [Int.natCast_add, Int.natCast_one] at hw
  intro j
  induction j with
  | zero =>
    intro P Q m τ hP hm hk hk2 h1 h2 h3 h4 hQ hS
    obtain ⟨m, rfl⟩ : ∃ q, m = q + 1 := ⟨m - 1, by omega⟩
    obtain rfl := List.eq_nil_of_length_eq_zero hP
    have hins := ins_mid (x := x) (A := []) (B := Q) (by simp) hQ
    refine ⟨τ, iterJ_out ?_ (by decide), rfl, by rw [hins]; exact h3, by rw [hins]; exact h4⟩
    simp -implicitDefEqProofs [L22_0, B22_0, hw]
  | succ j ih =>
    intro P Q m τ hP hm hk hk2 h1 h2 h3 h4 hQ hS
    obtain ⟨m, rfl⟩ : ∃ q, m = q + 1 := ⟨m - 1, by omega⟩
    obtain ⟨A, y, rfl⟩ : ∃ A y, P = A ++ [y] := by
      rcases List.eq_nil_or_concat P with rfl | ⟨A, y, e⟩
      · simp at hP
      · exact ⟨A, y, by rw [e, List.concat_eq_append]⟩
    have hA : A.length = j := by simpa using hP
    have hlist : (A ++ [y]) ++ x :: Q = A ++ y :: x :: Q := by simp
    rw [hlist] at h3 h4 hk
    have hkl : k = j + 1 + 1 + Q.length := by rw [hk]; simp; omega
    have wj : IntKind.i64.wrap (((j + 1 : Nat) : Int) - 1) = (j : Int) := wrap_pred (by omega)
    simp only [Int.natCast_add, Int.natCast_one] at wj
    have wj2 : IntKind.i64.wrap (j : Int) = (j : Int) := wrap_i64 (by omega) (by omega)
    have ixl1 : idxSSem 1 [.mslice 1 idl 0 k none, .int .i64 ((j : Int) + 1)] = some (.obj idl (j + 1)) := idx_ms (i := j + 1) (by omega)
    have ixl0 : idxSSem 1 [.mslice 1 idl 0 k none, .int .i64 (j : Int)] = some (.obj idl j) := idx_ms (i := j) (by omega)
    have ixn1 : idxSSem 1 [.mslice 1 idn 0 k none, .int .i64 ((j : Int) + 1)] = some (.obj idn (j + 1)) := idx_ms (i := j + 1) (by omega)
    have ixn0 : idxSSem 1 [.mslice 1 idn 0 k none, .int .i64 (j : Int)] = some (.obj idn j) := idx_ms (i := j) (by omega)
    have g0 : ∀ f : ObjV → DVal, ((A ++ y :: x :: Q).map f)[j]? = some (f y) := fun f => by rw [List.getElem?_map, List.getElem?_append_right (by omega)]; simp [hA]
    have g1 : ∀ f : ObjV → DVal, ((A ++ y :: x :: Q).map f)[j + 1]? = some (f x) := fun f => by rw [List.getElem?_map, List.getElem?_append_right (by omega)]; simp [hA]
    have rl0 := ld_l h3 h1 (g0 _)
    have rl1 := ld_l h3 h1 (g1 _)
    have rn0 := ld_l h4 h2 (g0 _)
    have rn1 := ld_l h4 h2 (g1 _)
    by_cases hlt : x.name < y.name
    · have hb : Op.bytesLess x.name y.name = true := by rw [bytesLess_eq]; simpa using hlt
      have hlen : ∀ f : ObjV → DVal, ((A ++ y :: x :: Q).map f).length = j + 1 + 1 + Q.length := fun f => by simp; omega
      obtain ⟨τ1, e1⟩ : ∃ τ1, τ1 = τ.put idl (.agg (((A ++ y :: x :: Q).map fun y => DVal.int .i64 y.num).set (j + 1) (.int .i64 y.num))) := ⟨_, rfl⟩
      have s1 : stOSem τ 1 [.obj idl (j + 1), .int .i64 y.num] = some (.undef, τ1) := by rw [e1]; exact st_l h3 h1 (by rw [hlen]; omega) rfl rfl
      have o1 : τ1.obj idl = .agg (((A ++ y :: x :: Q).map fun y => DVal.int .i64 y.num).set (j + 1) (.int .i64 y.num)) := by rw [e1]; simp
      obtain ⟨τ2, e2⟩ : ∃ τ2, τ2 = τ1.put idl (.agg ((A ++ x :: y :: Q).map fun y => DVal.int .i64 y.num)) := ⟨_, rfl⟩
      have s2 : stOSem τ1 1 [.obj idl j, .int .i64 x.num] = some (.undef, τ2) := by
        rw [e2, ← swap_set (fun y => DVal.int .i64 y.num) y x Q A, hA]
        exact st_l o1 (by rw [e1]; exact h1) (by rw [List.length_set, hlen]; omega) rfl rfl
      have o2n : τ2.obj idn = .agg ((A ++ y :: x :: Q).map fun y => .str y.name) := by rw [e2, Sto.put_obj_ne (Ne.symm hne), e1, Sto.put_obj_ne (Ne.symm hne)]; exact h4
      have n2 : τ2.nobj = τ.nobj := by rw [e2, e1]; rfl
      obtain ⟨τ3, e3⟩ : ∃ τ3, τ3 = τ2.put idn (.agg (((A ++ y :: x :: Q).map fun y => DVal.str y.name).set (j + 1) (.str y.name))) := ⟨_, rfl⟩
      have s3 : stOSem τ2 1 [.obj idn (j + 1), .str y.name] = some (.undef, τ3) := by rw [e3]; exact st_l o2n (by omega) (by rw [hlen]; omega) rfl rfl
      have o3 : τ3.obj idn = .agg (((A ++ y :: x :: Q).map fun y => DVal.str y.name).set (j + 1) (.str y.name)) := by rw [e3]; simp
      obtain ⟨τ4, e4⟩ : ∃ τ4, τ4 = τ3.put idn (.agg ((A ++ x :: y :: Q).map fun y => DVal.str y.name)) := ⟨_, rfl⟩
      have s4 : stOSem τ3 1 [.obj idn j, .str x.name] = some (.undef, τ4) := by
        rw [e4, ← swap_set (fun y => DVal.str y.name) y x Q A, hA]
        exact st_l o3 (by rw [e3]; show idn < τ2.nobj; omega) (by rw [List.length_set, hlen]; omega) rfl rfl
      have n4 : τ4.nobj = τ.nobj := by rw [e4, e3]; exact n2
      have o4l : τ4.obj idl = .agg ((A ++ x :: y :: Q).map fun y => .int .i64 y.num) := by rw [e4, Sto.put_obj_ne hne, e3, Sto.put_obj_ne hne, e2]; simp
      have o4n : τ4.obj idn = .agg ((A ++ x :: y :: Q).map fun y => .str y.name) := by rw [e4]; simp
      obtain ⟨τ', q1, q2, q3, q4⟩ := ih A (y :: Q) m τ4 hA (by omega) (by rw [hkl]; simp; omega) hk2 (by omega) (by omega) o4l o4n (by simpa using hlt) (List.pairwise_append.1 hS).1
      refine ⟨τ', ?_, q2.trans n4, ?_, ?_⟩
      · rw [← q1]
        refine iterJ_next' ?_
        generalize DVal.mslice 1 idl 0 k none = ML at *
        generalize DVal.mslice 1 idn 0 k none = MN at *
        simp -implicitDefEqProofs [L22_0, B22_0, wj, wj2, ixl0, ixl1, ixn0, ixn1, rl0, rl1, rn0, rn1, hb, s1, s2, s3, s4]
      · rw [q3]; simp
      · rw [q4]; simp
    · have hb : Op.bytesLess x.name y.name = false := by rw [bytesLess_eq]; simpa using hlt
      have hall : ∀ a ∈ A ++ [y], ¬ x.name < a.name := fun a ha hxa => by
        rcases List.mem_append.1 ha with ha | ha
        · have hay : a.name ≤ y.name := (List.pairwise_append.1 hS).2.2 a ha y (by simp)
          have hyx : y.name ≤ x.name := List.not_lt.1 hlt
          exact List.not_lt.2 (List.le_trans hay hyx) hxa
        · simp only [List.mem_cons, List.not_mem_nil, or_false] at ha
          subst ha
          exact hlt hxa
      have hins := ins_mid (x := x) (A := A ++ [y]) (B := Q) hall hQ
      refine ⟨τ, iterJ_out ?_ (by decide), rfl, by rw [hins, hlist]; exact h3, by rw [hins, hlist]; exact h4⟩
      generalize DVal.mslice 1 idl 0 k none = ML at *
      generalize DVal.mslice 1 idn 0 k none = MN at *
      simp -implicitDefEqProofs [L22_0, B22_0, wj, wj2, ixl0, ixl1, ixn0, ixn1, rl0, rl1, rn0, rn1, hb, hw]
theorem kids_snoc (l : List ObjV) (x : ObjV) (d : Int) : kids (l ++ [x]) d = if (x.dir == d && x.num != 1) = true then kids l d ++ [x] else kids l d := by
  unfold kids
  rw [List.filter_append]
  by_cases h : (x.dir == d && x.num != 1) = true
  · rw [if_pos h]; simp [List.filter_cons, h]
  · rw [if_neg h]; simp [List.filter_cons, h]
theorem l22_1 (s : StaV) (hl : s.objs.l.length ≤ 100000) (hn : 200000 ≤ n) (d : Int) : ∀ (r i m : Nat) (vn vl : DVal) (τ : Sto), i + r = s.objs.l.length → r < m →
    Acc τ vl ((chl (s.objs.l.take i) d).map fun y => .int .i64 y.num) → Acc τ vn ((chl (s.objs.l.take i) d).map fun y => .str y.name) → (∀ a b, vl = .mslice 1 a 0 (chl (s.objs.l.take i) d).length none → vn = .mslice 1 b 0 (chl (s.objs.l.take i) d).length none → a ≠ b) →
    ∃ v τ', iterJ 0 (L22_1 (cpJ PR n) (ciJ PR n) n (.int .i64 d) s.d) m [.int .i64 i, vn, vl] τ = some (.done v τ') ∧ Acc τ' v ((chl s.objs.l d).map fun y => .int .i64 y.num) := by
  intro r
  induction r with
  | zero =>
    intro i m vn vl τ hi hm h1 h2 h3
    obtain ⟨m, rfl⟩ : ∃ q, m = q + 1 := ⟨m - 1, by omega⟩
    have hi' : ¬ ((i : Int) < s.objs.l.length) := by omega
    rw [List.take_of_length_le (by omega)] at h1
    refine ⟨vl, τ, iterJ_done ?_, h1⟩
    have hok : vl.okVal = true := by rcases h1 with ⟨rfl, -⟩ | ⟨id, rfl, -⟩ <;> rfl
    simp -implicitDefEqProofs [L22_1, B22_1, hi', hok]
  | succ r ih =>
    intro i m vn vl τ hi hm h1 h2 h3
    obtain ⟨m, rfl⟩ : ∃ q, m = q + 1 := ⟨m - 1, by omega⟩
    have hi' : ((i : Int) < s.objs.l.length) := by omega
    obtain ⟨x, hx⟩ := get_some (by omega : i < s.objs.l.length)
    have hw := wrap_succ (i := i) (by omega)
    simp only [Int.natCast_add, Int.natCast_one] at hw
    have hk := kids_snoc (s.objs.l.take i) x d
    rw [← take_get hx] at hk
    have hel : ldOSem τ (some 5) [.elem x.row 0] = some (x.d, τ) := rfl
    by_cases hin : (x.dir == d && x.num != 1) = true
    · rw [if_pos hin] at hk
      have hch : chl (s.objs.l.take (i + 1)) d = ins x (chl (s.objs.l.take i) d) := by
        unfold chl
        rw [hk, isort_snoc]
      have hS := chl_srt (s.objs.l.take i) d
      have hcl : (chl (s.objs.l.take i) d).length ≤ 100000 := by
        rw [(chl_perm _ d).length_eq]
        refine Nat.le_trans (List.length_filter_le _ _) ?_
        rw [List.length_take]; omega
      generalize chl (s.objs.l.take i) d = A at *
      obtain ⟨τ1, a1, a2, a3, a4⟩ := acc_app (.int .i64 x.num) h1 (by simp; omega)
      have h2' : Acc τ1 vn (A.map fun y => .str y.name) := by
        rcases h2 with ⟨rfl, e⟩ | ⟨id, rfl, hid, ho⟩
        · exact .inl ⟨rfl, e⟩
        · refine .inr ⟨id, rfl, by omega, ?_⟩
          rw [a4 id hid fun id' e => ?_]
          · exact ho
          · exact Ne.symm (h3 id' id (by simpa using e) (by simp))
      obtain ⟨τ2, b1, b2, b3, b4⟩ := acc_app (.str x.name) h2' (by simp; omega)
      simp only [List.length_map] at a1 b1
      have hne : τ.nobj ≠ τ1.nobj := by omega
      have oL : τ2.obj τ.nobj = .agg ((A ++ [x]).map fun y => .int .i64 y.num) := by
        rw [b4 τ.nobj (by omega) fun id e => ?_, a3]
        · simp
        · rcases h2 with ⟨rfl, -⟩ | ⟨id2, rfl, hid, -⟩
          · cases e
          · simp only [DVal.mslice.injEq] at e
            omega
      have oN : τ2.obj τ1.nobj = .agg ((A ++ [x]).map fun y => .str y.name) := by rw [b3]; simp
      obtain ⟨τ3, c1, c2, c3, c4⟩ := l22_0 (n := n) (i := i) (by omega) hne (x := x) (k := A.length + 1) A.length A [] n τ2 rfl (by omega) (by simp) (by omega) (by omega) (by omega) oL oN (by simp) hS
      rw [List.append_nil, ← hch] at c3 c4
      have hlen2 : (chl (s.objs.l.take (i + 1)) d).length = A.length + 1 := by rw [hch, (ins_perm x A).length_eq]; rfl
      obtain ⟨v, τ', g1, g2⟩ := ih (i + 1) m (.mslice 1 τ1.nobj 0 (A.length + 1) none) (.mslice 1 τ.nobj 0 (A.length + 1) none) τ3 (by omega) (by omega)
        (.inr ⟨τ.nobj, by rw [List.length_map, hlen2], by omega, c3⟩) (.inr ⟨τ1.nobj, by rw [List.length_map, hlen2], by omega, c4⟩) (fun a b e1 e2 => by simp only [DVal.mslice.injEq] at e1 e2; omega)
      refine ⟨v, τ', ?_, g2⟩
      rw [← g1]
      refine iterJ_next' ?_
      simp only [Bool.and_eq_true, bne, Bool.not_eq_true'] at hin
      obtain ⟨p1, p2⟩ := hin
      have p1' : x.dir = d := by simpa using p1
      have p2' : ¬ x.num = 1 := by simpa using p2
      have hls : lenSlSem [.mslice 1 τ.nobj 0 (A.length + 1) none] = some (.int .i64 ((A.length + 1 : Nat) : Int)) := rfl
      have wp : IntKind.i64.wrap (((A.length + 1 : Nat) : Int) - 1) = (A.length : Int) := wrap_pred (by omega)
      have wp2 : IntKind.i64.wrap (A.length : Int) = (A.length : Int) := wrap_i64 (by omega) (by omega)
      simp only [Int.natCast_add, Int.natCast_one] at hls wp c1
      simp only [Int.natCast_add, Int.natCast_one]
      generalize DVal.mslice 1 τ.nobj 0 (A.length + 1) none = ML at *
      generalize DVal.mslice 1 τ1.nobj 0 (A.length + 1) none = MN at *
      simp -implicitDefEqProofs [L22_1, B22_1, hi', hx, hel, p1, p1', p2, p2', a1, b1, hls, wp, wp2, c1, -jwrSem.eq_1, -fldSem.eq_1]
    · rw [if_neg hin] at hk
      have hch : chl (s.objs.l.take (i + 1)) d = chl (s.objs.l.take i) d := by unfold chl; rw [hk]
      obtain ⟨v, τ', g1, g2⟩ := ih (i + 1) m vn vl τ (by omega) (by omega) (by rw [hch]; exact h1) (by rw [hch]; exact h2) (by rw [hch]; exact h3)
      refine ⟨v, τ', ?_, g2⟩
      rw [← g1]
      refine iterJ_next' ?_
      cases p1 : (x.dir == d) with
      | false =>
        have p1' : ¬ x.dir = d := by simpa using p1
        have p1n : (x.dir != d) = true := by simp [bne, p1]
        simp -implicitDefEqProofs [L22_1, B22_1, hi', hx, hel, p1, p1', p1n, hw, -jwrSem.eq_1, -fldSem.eq_1]
      | true =>
        have p2 : (x.num == 1) = true := by rw [p1] at hin; simpa [bne] using hin
        have p1' : x.dir = d := by simpa using p1
        have p2' : x.num = 1 := by simpa using p2
        simp -implicitDefEqProofs [L22_1, B22_1, hi', hx, hel, p1, p1', p2, p2', hw, -jwrSem.eq_1, -fldSem.eq_1]
theorem snap_ints : ∀ (l : List ObjV), snapRows 1 l.length (l.map fun y => DVal.int .i64 y.num) = some (numR l)
  | [] => rfl
  | x :: l => by
    have := snap_ints l
    simp only [List.length_cons, List.map_cons, snapRows]
    rw [if_pos (by simp)]
    simp [sealCells, DVal.sealCell, this, numR]
theorem e22 (s : StaV) (hl : s.objs.l.length ≤ 100000) (hn : 200001 ≤ n) (d : Int) : ∃ z, cpJ PR n 22 [s.d, .int .i64 d] = some (slD z 1 (numR (chl s.objs.l d))) := by
  obtain ⟨n, rfl⟩ : ∃ m, n = m + 1 := ⟨n - 1, by omega⟩
  have h0 : chl (s.objs.l.take 0) d = [] := rfl
  obtain ⟨v, τ', h1, h2⟩ := l22_1 (n := n) s hl (by omega) d s.objs.l.length 0 n .nils .nils emptySto (by omega) (by omega) (.inl ⟨rfl, by rw [h0]; rfl⟩) (.inl ⟨rfl, by rw [h0]; rfl⟩) (fun a b e => by cases e)
  simp only [Int.natCast_zero] at h1
  rw [u22]
  rcases h2 with ⟨rfl, e⟩ | ⟨id, rfl, hid, ho⟩
  · have : chl s.objs.l d = [] := by simpa using e
    refine ⟨.nil, ?_⟩
    rw [this]
    simp -implicitDefEqProofs [D22, h1]
    rfl
  · refine ⟨.full, ?_⟩
    have hsn : (DVal.mslice 1 id 0 ((chl s.objs.l d).map fun y => DVal.int .i64 y.num).length none).handBack τ' = some (slD .full 1 (numR (chl s.objs.l d))) := by
      simp only [List.length_map]
      rw [show (DVal.mslice 1 id 0 (chl s.objs.l d).length none).handBack τ' = (DVal.mslice 1 id 0 (chl s.objs.l d).length none).sealVal.or ((DVal.mslice 1 id 0 (chl s.objs.l d).length none).snapVal τ') from rfl]
      have : DVal.snapVal τ' (.mslice 1 id 0 (chl s.objs.l d).length none) = some (slD .full 1 (numR (chl s.objs.l d))) := by
        show (snapM τ' 1 id 0 (chl s.objs.l d).length).map _ = _
        unfold snapM
        rw [if_pos hid, ho]
        simp only [List.drop_zero, snap_ints]
        rfl
      rw [this]
      rfl
    generalize (DVal.mslice 1 id 0 ((chl s.objs.l d).map fun y => DVal.int .i64 y.num).length none) = MS at *
    simp -implicitDefEqProofs [D22, h1, hsn, -DVal.handBack.eq_1, -DVal.handBack.eq_2, -DVal.handBack.eq_3]
end
def intR (l : List Int) : List (List DVal) := l.map fun i => [DVal.int .i64 i]
theorem numR_int (l : List ObjV) : numR l = intR (l.map ObjV.num) := by simp [numR, intR]
theorem l56 {n : Nat} (s : StaV) {z : Zs} {l : List ObjV} {f : Int → List Int} (hlen : l.length ≤ 1000) (hf : ∀ x ∈ l, (f x.num).length ≤ 1000) (hrec : ∀ x ∈ l, ∃ u, cpJ PR n 56 [s.d, .int .i64 x.num] = some u ∧ Fresh 1 u (intR (f x.num))) :
    ∀ (r i m : Nat) (v : DVal) (σ : Sto) (done : List Int), i + r = l.length → r < m → Own σ 1 v (intR done) → done.length ≤ 1000 * (i + 1) →
    ∃ v' σ', iterJ 0 (L56_0 (cpJ PR n) (ciJ PR n) n s.d (slD z 1 (numR l))) m [.int .i64 i, v] σ = some (.done v' σ') ∧ Own σ' 1 v' (intR (done ++ (l.drop i).flatMap fun x => f x.num)) := by
  intro r
  have hlsl : lenSlSem [slD z 1 (numR l)] = some (.int .i64 l.length) := by simp [numR]
  induction r with
  | zero =>
    intro i m v σ done hi hm hv hd
    obtain ⟨m, rfl⟩ : ∃ q, m = q + 1 := ⟨m - 1, by omega⟩
    have hi' : ¬ ((i : Int) < l.length) := by omega
    refine ⟨v, σ, iterJ_done ?_, by rw [List.drop_eq_nil_of_le (by omega)]; simpa using hv⟩
    have hok := own_okVal hv
    generalize slD z 1 (numR l) = SL at *
    simp -implicitDefEqProofs [L56_0, B56_0, hi', hlsl, hok]
  | succ r ih =>
    intro i m v σ done hi hm hv hd
    obtain ⟨m, rfl⟩ : ∃ q, m = q + 1 := ⟨m - 1, by omega⟩
    have hi' : ((i : Int) < l.length) := by omega
    obtain ⟨x, hx⟩ := get_some (by omega : i < l.length)
    have hw := wrap_succ (i := i) (by omega)
    simp only [Int.natCast_add, Int.natCast_one] at hw
    obtain ⟨u, h1, h2⟩ := hrec x (List.mem_of_getElem? hx)
    have hfx := hf x (List.mem_of_getElem? hx)
    obtain ⟨zu, h3⟩ := fresh_stale h2
    obtain ⟨v1, σ1, h4, h5⟩ := own_app (x := slD zu 1 (intR (f x.num))) (new := intR (f x.num)) hv elems_slD szOk_slD (by simp [intR]; omega)
    have h6 : intR done ++ intR (f x.num) = intR (done ++ f x.num) := by simp [intR]
    rw [h6] at h5
    obtain ⟨v', σ', g1, g2⟩ := ih (i + 1) m v1 σ1 (done ++ f x.num) (by omega) (by omega) h5 (by simp; omega)
    have hix : idxSSem 1 [slD z 1 (numR l), .int .i64 (i : Int)] = some (.elem [.int .i64 x.num] 0) := by simp [numR, hx]
    refine ⟨v', σ', ?_, by rw [drop_get hx]; simpa using g2⟩
    rw [← g1]
    refine iterJ_next' ?_
    simp only [Int.natCast_add, Int.natCast_one]
    generalize slD z 1 (numR l) = SL at *
    generalize slD zu 1 (intR (f x.num)) = SU at *
    simp -implicitDefEqProofs [L56_0, B56_0, hi', hlsl, hix, h1, h3, h4, hw]
theorem e56 {last : Int} (s : StaV) (h : Wf s.objs.l last) : ∀ (k : Nat) (d : Int) (n : Nat), d ∈ s.objs.l.map ObjV.num → last < d + k → 300000 + k ≤ n → ∃ u, cpJ PR n 56 [s.d, .int .i64 d] = some u ∧ Fresh 1 u (intR (pre s.objs.l k d))
  | 0, d, n, hd, hl, hn => by
    obtain ⟨x, hx, rfl⟩ := List.mem_map.1 hd
    have := h.top x hx
    omega
  | k + 1, d, n, hd, hl, hn => by
    obtain ⟨n, rfl⟩ : ∃ m, n = m + 1 := ⟨n - 1, by omega⟩
    have hlen := h.len
    have hcl : (chl s.objs.l d).length ≤ 256 := by rw [(chl_perm _ d).length_eq]; exact Nat.le_trans (List.length_filter_le _ _) hlen
    obtain ⟨z, h22⟩ := e22 (n := n) s (by omega) (by omega) d
    have sub : ∀ x ∈ chl s.objs.l d, x.num ∈ s.objs.l.map ObjV.num ∧ last < x.num + k := fun x hx => by
      obtain ⟨g1, g2, g3⟩ := mem_chl.1 hx
      have := h.less x g1 g3
      exact ⟨List.mem_map.2 ⟨x, g1, rfl⟩, by omega⟩
    obtain ⟨v, σ, h1, h2⟩ := l56 (n := n) s (z := z) (l := chl s.objs.l d) (f := pre s.objs.l k) (by omega) (fun x hx => by have := h.toWf0.pre_len (sub x hx).1 (sub x hx).2; omega)
      (fun x hx => e56 s h k x.num n (sub x hx).1 (sub x hx).2 (by omega)) (chl s.objs.l d).length 0 n (.slice false 1 1 [[.int .i64 d]]) emptySto [d] (by omega) (by omega) (own_lit _ _ _) (by simp)
    simp only [Int.natCast_zero, List.drop_zero] at h1 h2
    obtain ⟨u, h3, h4⟩ := own_back h2
    refine ⟨u, ?_, h4⟩
    have hst : (slD z 1 (numR (chl s.objs.l d))).stale = slD z 1 (numR (chl s.objs.l d)) := by simp
    rw [u56]
    generalize slD z 1 (numR (chl s.objs.l d)) = SL at *
    simp -implicitDefEqProofs [D56, h22, hst, h1, h3, -DVal.handBack.eq_1, -DVal.handBack.eq_2, -DVal.handBack.eq_3]
theorem e42 {last : Int} {n : Nat} (s : StaV) (h : Wf s.objs.l last) (hb : last ≤ 1000) (hn : 400000 ≤ n) : ∃ z, cpJ PR n 42 [s.d] = some (slD z 1 (intR (allN s.objs.l))) := by
  obtain ⟨n, rfl⟩ : ∃ m, n = m + 1 := ⟨n - 1, by omega⟩
  obtain ⟨x, hx, h1, -⟩ := h.toWf0.one
  obtain ⟨u, h2, h3⟩ := e56 s h 1000 1 n (List.mem_map.2 ⟨x, hx, h1⟩) (by omega) (by omega)
  obtain ⟨z, h4⟩ := fresh_stale h3
  refine ⟨z, ?_⟩
  rw [u42]
  have hbk : ∀ σ, (slD z 1 (intR (pre s.objs.l 1000 1))).handBack σ = some (slD z 1 (intR (pre s.objs.l 1000 1))) := fun σ => by simp
  have hok : (slD z 1 (intR (pre s.objs.l 1000 1))).okVal = true := by simp
  unfold allN
  generalize slD z 1 (intR (pre s.objs.l 1000 1)) = SL at *
  simp -implicitDefEqProofs [D42, h2, h4, hbk, hok]
theorem l20 {n : Nat} {z1 z2 : Zs} {a b : List Int} (hab : a.length = b.length) (hl : a.length ≤ 1000000) (σ : Sto) : ∀ (r i m : Nat), i + r = a.length → r < m →
    iterJ 0 (L20_0 (cpJ PR n) (ciJ PR n) n (slD z1 1 (intR a)) (slD z2 1 (intR b))) m [.int .i64 i, .bool false] σ = some (.done (.bool (decide (a.drop i = b.drop i))) σ) := by
  intro r
  have h1 : lenSlSem [slD z1 1 (intR a)] = some (.int .i64 a.length) := by simp [intR]
  induction r with
  | zero =>
    intro i m hi hm
    obtain ⟨m, rfl⟩ : ∃ q, m = q + 1 := ⟨m - 1, by omega⟩
    have hi' : ¬ ((i : Int) < a.length) := by omega
    rw [List.drop_eq_nil_of_le (by omega), List.drop_eq_nil_of_le (by omega)]
    refine iterJ_done ?_
    generalize slD z1 1 (intR a) = SA at *
    generalize slD z2 1 (intR b) = SB at *
    simp -implicitDefEqProofs [L20_0, B20_0, hi', h1]
  | succ r ih =>
    intro i m hi hm
    obtain ⟨m, rfl⟩ : ∃ q, m = q + 1 := ⟨m - 1, by omega⟩
    have hi' : ((i : Int) < a.length) := by omega
    obtain ⟨x, hx⟩ := get_some (by omega : i < a.length)
    obtain ⟨y, hy⟩ := get_some (by omega : i < b.length)
    have hw := wrap_succ (i := i) (by omega)
    simp only [Int.natCast_add, Int.natCast_one] at hw
    have ia : idxSSem 1 [slD z1 1 (intR a), .int .i64 (i : Int)] = some (.elem [.int .i64 x] 0) := by simp [intR, hx]
    have ib : idxSSem 1 [slD z2 1 (intR b), .int .i64 (i : Int)] = some (.elem [.int .i64 y] 0) := by simp [intR, hy]
    rw [drop_get hx, drop_get hy]
    by_cases e : x = y
    · have e2 : (x == y) = true := by simpa using e
      have : decide (x :: a.drop (i + 1) = y :: b.drop (i + 1)) = decide (a.drop (i + 1) = b.drop (i + 1)) := by rw [decide_eq_decide]; simp [e]
      rw [this, ← ih (i + 1) m (by omega) (by omega)]
      refine iterJ_next' ?_
      simp only [Int.natCast_add, Int.natCast_one]
      generalize slD z1 1 (intR a) = SA at *
      generalize slD z2 1 (intR b) = SB at *
      simp -implicitDefEqProofs [L20_0, B20_0, hi', h1, ia, ib, e, e2, hw]
    · have e2 : (x == y) = false := by simpa using e
      have : decide (x :: a.drop (i + 1) = y :: b.drop (i + 1)) = false := by simp [e]
      rw [this]
      refine iterJ_done ?_
      generalize slD z1 1 (intR a) = SA at *
      generalize slD z2 1 (intR b) = SB at *
      simp -implicitDefEqProofs [L20_0, B20_0, hi', h1, ia, ib, e, e2]
theorem e20 {n : Nat} (z1 z2 : Zs) (a b : List Int) (hl : a.length ≤ 1000000) (hl2 : b.length ≤ 1000000) (hn : 1000002 ≤ n) : cpJ PR n 20 [slD z1 1 (intR a), slD z2 1 (intR b)] = some (.bool (decide (a = b))) := by
  obtain ⟨n, rfl⟩ : ∃ m, n = m + 1 := ⟨n - 1, by omega⟩
  have h1 : lenSlSem [slD z1 1 (intR a)] = some (.int .i64 a.length) := by simp [intR]
  have h2 : lenSlSem [slD z2 1 (intR b)] = some (.int .i64 b.length) := by simp [intR]
  rw [u20]
  by_cases h : a.length = b.length
  · have h3 := l20 (n := n) (z1 := z1) (z2 := z2) h hl emptySto a.length 0 n (by omega) (by omega)
    simp only [Int.natCast_zero, List.drop_zero] at h3
    rw [h] at h1
    rw [← h] at h2 h1
    generalize slD z1 1 (intR a) = SA at *
    generalize slD z2 1 (intR b) = SB at *
    simp -implicitDefEqProofs [D20, h1, h2, h3]
  · have h4 : decide (a = b) = false := by simp only [decide_eq_false_iff_not]; exact fun e => h (by rw [e])
    have h5 : ((a.length : Int) == (b.length : Int)) = false := by simp; omega
    have h6 : ¬ ((a.length : Int) = (b.length : Int)) := by omega
    rw [h4]
    generalize slD z1 1 (intR a) = SA at *
    generalize slD z2 1 (intR b) = SB at *
    simp -implicitDefEqProofs [D20, h1, h2, h5, h6]
end Go.Proofs.YtklepphkbbjbjaaDoor
namespace Go.Proofs.YtklepphkbbjbjaaDoor
set_option linter.unusedVariables false
set_option linter.unusedSimpArgs false
open Go
theorem wr_left {A R new B : List DVal} {o : Nat} (h : o + new.length ≤ A.length) (hw : writeCells A o new = some B) : writeCells (A ++ R) o new = some (B ++ R) := by
  unfold writeCells at hw ⊢
  rw [if_pos h] at hw
  simp only [Option.some.injEq] at hw
  subst hw
  rw [if_pos (by simp; omega), List.take_append_of_le_length (by omega), List.drop_append_of_le_length h]
  simp [List.append_assoc]
theorem wr_right {A R new B : List DVal} {o : Nat} (hw : writeCells R o new = some B) : writeCells (A ++ R) (A.length + o) new = some (A ++ B) := by
  unfold writeCells at hw ⊢
  split at hw
  · rename_i h
    simp only [Option.some.injEq] at hw
    subst hw
    rw [if_pos (by simp; omega), List.take_length_add_append, Nat.add_assoc, List.drop_length_add_append]
    simp [List.append_assoc]
  · cases hw
section
variable {α : Type} {f : α → List DVal} {k : Nat} (hf : ∀ a, (f a).length = k)
include hf
theorem wr_flat {o : Nat} {new : List DVal} (ho : o + new.length ≤ k) : ∀ {l : List α} {i : Nat} {x y : α}, l[i]? = some x → writeCells (f x) o new = some (f y) → writeCells (l.map f).flatten (i * k + o) new = some ((l.set i y).map f).flatten
  | [], i, x, y, h, _ => by simp at h
  | a :: l, 0, x, y, h, hw => by
    simp only [List.getElem?_cons_zero, Option.some.injEq] at h
    subst h
    simp only [List.map_cons, List.flatten_cons, Nat.zero_mul, Nat.zero_add, List.set_cons_zero]
    exact wr_left (by rw [hf]; exact ho) hw
  | a :: l, i + 1, x, y, h, hw => by
    have := wr_right (A := f a) (wr_flat ho (l := l) (i := i) (by simpa using h) hw)
    rw [hf] at this
    simp only [List.map_cons, List.flatten_cons, List.set_cons_succ]
    rw [show (i + 1) * k + o = k + (i * k + o) by rw [Nat.add_mul, Nat.one_mul]; omega]
    exact this
theorem snap_flat (hs : ∀ a, sealCells (f a) = some (f a)) : ∀ (l : List α), snapRows k l.length (l.map f).flatten = some (l.map f)
  | [] => rfl
  | a :: l => by
    have hl := hf a
    have h1 : List.take k (f a ++ (List.map f l).flatten) = f a := by rw [← hl, List.take_left]
    have h2 : List.drop k (f a ++ (List.map f l).flatten) = (List.map f l).flatten := by rw [← hl, List.drop_left]
    simp only [List.length_cons, List.map_cons, List.flatten_cons, snapRows]
    rw [if_pos (by simp; omega), h1, h2, hs, snap_flat hs l]
end
end Go.Proofs.YtklepphkbbjbjaaDoor
namespace Go.Proofs.YtklepphkbbjbjaaDoor
set_option linter.unusedVariables false
set_option linter.unusedSimpArgs false
set_option maxRecDepth 20000
set_option maxHeartbeats 8000000
open Go
theorem own_sealCell {σ : Sto} {sz : Nat} {v : DVal} {l : List (List DVal)} (h : Own σ sz v l) : ∃ z, v.sealCell = some (slD z sz l) := by
  obtain ⟨z, hz⟩ := own_seal h
  rcases h with ⟨rfl, -⟩ | rfl | ⟨t, rfl, -⟩ <;> exact ⟨z, hz⟩
def rawS (v : DVal) (last : Int) : DVal := .agg [v, .int .i64 last]
theorem raw_seal {v : DVal} {z : Zs} {l : List ObjV} {last : Int} (hz : v.sealCell = some (slD z 5 (l.map ObjV.row))) : (rawS v last).sealVal = some (StaV.mk ⟨z, l⟩ last).d := by
  have h1 : sealCells [v, .int .i64 last] = some [slD z 5 (l.map ObjV.row), .int .i64 last] := by
    show (match v.sealCell, some [DVal.int .i64 last] with | some d, some ds => some (d :: ds) | _, _ => none) = _
    rw [hz]
  show (sealCells [v, .int .i64 last]).map DVal.agg = _
  rw [h1]
  rfl
theorem back_raw {σ : Sto} {v : DVal} {l : List ObjV} {last : Int} {rest : List DVal} (h : Own σ 5 v (l.map ObjV.row)) (hr : sealVals rest = some rest) : ∃ z, (DVal.tup (rawS v last :: rest)).handBack σ = some (.tup ((StaV.mk ⟨z, l⟩ last).d :: rest)) := by
  obtain ⟨z, hz⟩ := own_sealCell h
  refine ⟨z, ?_⟩
  have h1 := raw_seal (last := last) hz
  show ((sealVals (rawS v last :: rest)).or _).map _ = _
  simp only [sealVals, h1, hr]
  rfl
theorem raw_ok {v : DVal} {last : Int} (hv : v.okCell = true) : [v, DVal.int .i64 last].all DVal.okCell = true := by
  show (v.okCell && ((DVal.int .i64 last).okCell && true)) = true
  rw [hv]
  rfl
theorem raw_wr {v : DVal} {last : Int} (hv : v.okCell = true) : jwrSem 0 2 [.agg [.nils, .int .i64 0], rawS v last] = some (rawS v last) := by
  show (if [v, DVal.int .i64 last].length = 2 ∧ [v, DVal.int .i64 last].all DVal.okCell = true then _ else none) = _
  rw [if_pos ⟨rfl, raw_ok hv⟩]
  rfl
theorem raw_set {z : Sl ObjV} {v : DVal} {last : Int} (hc : v.cells = [v]) (hv : v.okCell = true) : jwrSem 0 1 [(StaV.mk z last).d, v] = some (rawS v last) := by
  show (if v.cells.length = 1 ∧ v.cells.all DVal.okCell = true then (writeCells _ 0 v.cells).map DVal.agg else none) = _
  rw [hc, if_pos ⟨rfl, by show (v.okCell && true) = true; rw [hv]; rfl⟩]
  rfl
theorem raw_okVal {v : DVal} {last : Int} (hv : v.okCell = true) : (rawS v last).okVal = true := raw_ok hv
theorem sta_tup (s : StaV) (rest : List DVal) (hr : sealVals rest = some rest) (σ : Sto) : (DVal.tup (s.d :: rest)).handBack σ = some (.tup (s.d :: rest)) := by
  show ((sealVals (s.d :: rest)).or _).map _ = _
  simp only [sealVals, StaV_seal, hr]
  rfl
theorem e14 {n : Nat} (hn : 1 ≤ n) (lab : Int) : cpJ PR n 14 [.int .i64 lab] = some (StaV.mk ⟨.lit, [⟨1, 0, [], 2, lab⟩]⟩ 1).d := by
  obtain ⟨n, rfl⟩ : ∃ m, n = m + 1 := ⟨n - 1, by omega⟩
  have b1 : POp.sem (cpJ PR n) [(.int .i64 1), (.int .i64 2), .int .i64 lab] (.build [(.int .i64 0), (.int .i64 0), (.str []), (.int .i64 0), (.int .i64 0)] [(0, 1), (3, 1), (4, 1)]) = some (⟨1, 0, [], 2, lab⟩ : ObjV).d := rfl
  have b2 := ObjV_slice (cpJ PR n) ⟨1, 0, [], 2, lab⟩
  have b3 : POp.sem (cpJ PR n) [.slice false 1 5 [(⟨1, 0, [], 2, lab⟩ : ObjV).row], .int .i64 1] (.build [.nils, .int .i64 0] [(0, 1), (1, 1)]) = some (StaV.mk ⟨.lit, [⟨1, 0, [], 2, lab⟩]⟩ 1).d := rfl
  rw [u14]
  have hwr := StaV_wr (StaV.mk ⟨.lit, [⟨1, 0, [], 2, lab⟩]⟩ 1) .nils (.int .i64 0)
  have hfl := StaV_whole (StaV.mk ⟨.lit, [⟨1, 0, [], 2, lab⟩]⟩ 1)
  have hbk := StaV_back (StaV.mk ⟨.lit, [⟨1, 0, [], 2, lab⟩]⟩ 1) emptySto
  have hok := StaV_okVal (StaV.mk ⟨.lit, [⟨1, 0, [], 2, lab⟩]⟩ 1)
  generalize (StaV.mk ⟨.lit, [⟨1, 0, [], 2, lab⟩]⟩ 1).d = SD at *
  generalize (⟨1, 0, [], 2, lab⟩ : ObjV).row = OR at *
  generalize (⟨1, 0, [], 2, lab⟩ : ObjV).d = OD at *
  simp -implicitDefEqProofs [D14, b1, b2, b3, hwr, hfl, hbk, hok, -jwrSem.eq_1, -fldSem.eq_1, -POp.sem.eq_17, -POp.sem.eq_18]
section
variable {os : List ObjV} {last : Int}
theorem e34 {n : Nat} (s : StaV) (hw : Wf s.objs.l s.last) (hb : s.last ≤ 1000) (dir : Int) (name : Bs) (kind label : Int) (hnm : name.length ≤ 9223372036854775807) (hn : 3000 + name.length ≤ n) :
    ∃ z, cpJ PR n 34 [s.d, .int .i64 dir, .str name, .int .i64 kind, .int .i64 label] = some (.tup [(StaV.mk ⟨z, (addV s.objs.l s.last dir name kind label).1.1⟩ (addV s.objs.l s.last dir name kind label).1.2).d,
      .int .i64 (addV s.objs.l s.last dir name kind label).2.1, .int .i64 (addV s.objs.l s.last dir name kind label).2.2]) := by
  obtain ⟨n, rfl⟩ : ∃ m, n = m + 1 := ⟨n - 1, by omega⟩
  have hlen := hw.len
  have h39 := e39 (n := n) s (by omega) (by omega) dir
  have h49 := e49 (n := n) name hnm (by omega)
  have h50 := e50 (n := n) s (by omega) (by omega) dir name
  have h38 := e38 (n := n) s hw hb (by omega) dir
  rw [childA_kid] at h50
  have fail : ∀ e, addE s.objs.l dir name kind = e → e ≠ 0 → cpJ PR (n + 1) 34 [s.d, .int .i64 dir, .str name, .int .i64 kind, .int .i64 label] = some (.tup [s.d, .int .i64 0, .int .i64 e]) →
      ∃ z, cpJ PR (n + 1) 34 [s.d, .int .i64 dir, .str name, .int .i64 kind, .int .i64 label] = some (.tup [(StaV.mk ⟨z, (addV s.objs.l s.last dir name kind label).1.1⟩ (addV s.objs.l s.last dir name kind label).1.2).d,
        .int .i64 (addV s.objs.l s.last dir name kind label).2.1, .int .i64 (addV s.objs.l s.last dir name kind label).2.2]) := fun e h1 h2 h3 => by
    have : addV s.objs.l s.last dir name kind label = ((s.objs.l, s.last), 0, e) := by unfold addV; rw [h1, if_neg h2]
    rw [this]
    exact ⟨s.objs.z, h3⟩
  have hbk : ∀ e σ, (DVal.tup [s.d, .int .i64 0, .int .i64 e]).handBack σ = some (.tup [s.d, .int .i64 0, .int .i64 e]) := fun e σ => sta_tup s _ rfl σ
  unfold idxI at h39
  cases hf : fo s.objs.l dir with
  | none =>
    rw [hf] at h39
    refine fail 11 (by unfold addE; rw [hf]) (by decide) ?_
    have hbk := hbk 11
    rw [u34]
    simp -implicitDefEqProofs [D34, h39, hbk, -jwrSem.eq_1, -DVal.handBack.eq_2]
  | some r =>
    obtain ⟨i, d⟩ := r
    obtain ⟨hix, hd, hdn⟩ := fo_some hf
    rw [hf] at h39
    have h0 : ¬ ((i : Int) < 0) := by omega
    have hE : addE s.objs.l dir name kind = if d.kind ≠ 2 then 13 else if kind < 1 ∨ 4 < kind then 2 else if nameV name = false then 10 else if (kid s.objs.l dir name).isSome = true then 12 else
      if 256 < (path s.objs.l dir).length + 1 + name.length then 4 else if 256 ≤ s.objs.l.length then 25 else 0 := by unfold addE; rw [hf]
    by_cases c1 : ¬ d.kind = 2
    · refine fail 13 (by rw [hE, if_pos c1]) (by decide) ?_
      have c1' : (d.kind == 2) = false := by simpa using c1
      have hbk := hbk 13
      rw [u34]
      simp -implicitDefEqProofs [D34, h39, h0, hix, c1, c1', hbk, -jwrSem.eq_1, -DVal.handBack.eq_2]
    replace c1 : d.kind = 2 := Decidable.not_not.1 c1
    rw [if_neg (by simpa using c1)] at hE
    have c1' : (d.kind == 2) = true := by simpa using c1
    by_cases c2 : kind < 1
    · refine fail 2 (by rw [hE, if_pos (.inl c2)]) (by decide) ?_
      have hbk := hbk 2
      rw [u34]
      simp -implicitDefEqProofs [D34, h39, h0, hix, c1, c1', c2, hbk, -jwrSem.eq_1, -DVal.handBack.eq_2]
    by_cases c3 : 4 < kind
    · refine fail 2 (by rw [hE, if_pos (.inr c3)]) (by decide) ?_
      have hbk := hbk 2
      rw [u34]
      simp -implicitDefEqProofs [D34, h39, h0, hix, c1, c1', c2, c3, hbk, -jwrSem.eq_1, -DVal.handBack.eq_2]
    rw [if_neg (by omega)] at hE
    cases c4 : nameV name with
    | false =>
      refine fail 10 (by rw [hE, if_pos c4]) (by decide) ?_
      rw [c4] at h49
      have hbk := hbk 10
      rw [u34]
      simp -implicitDefEqProofs [D34, h39, h0, hix, c1, c1', c2, c3, h49, hbk, -jwrSem.eq_1, -DVal.handBack.eq_2]
    | true =>
    rw [if_neg (by rw [c4]; simp)] at hE
    rw [c4] at h49
    cases c5 : kid s.objs.l dir name with
    | some r =>
      obtain ⟨j, x⟩ := r
      refine fail 12 (by rw [hE, if_pos (by rw [c5]; rfl)]) (by decide) ?_
      rw [c5] at h50
      have hx := (mem_kids.1 (kid_some c5).1)
      have hpos := hw.toWf0.pos hx.1
      have c5' : (x.num == 0) = false := by simp; omega
      have c5'' : ¬ x.num = 0 := by omega
      have hbk := hbk 12
      rw [u34]
      simp -implicitDefEqProofs [D34, h39, h0, hix, c1, c1', c2, c3, h49, h50, c5', c5'', hbk, -jwrSem.eq_1, -DVal.handBack.eq_2]
    | none =>
    rw [if_neg (by rw [c5]; simp)] at hE
    rw [c5] at h50
    have hps := hw.short d hd
    rw [hdn] at hps
    have hnl : name.length ≤ 32 := by
      simp only [nameV, Bool.and_eq_true, decide_eq_true_eq] at c4
      exact c4.1.2
    have hpa : pathA s.objs.l dir = (rpath s.objs.l dir, true) := by
      unfold pathA
      rw [if_pos (by unfold hasN; rw [hf]; rfl)]
    rw [hpa] at h38
    -- the length of the path
    have hlong : (cond (decide (256 < ((rpath s.objs.l dir).length : Int) + (name.length : Int))) true (cond (rpath s.objs.l dir != [47]) (decide (256 < ((rpath s.objs.l dir).length : Int) + 1 + (name.length : Int))) false)) = decide (256 < (path s.objs.l dir).length + 1 + name.length) := by
      unfold rpath
      by_cases h1 : dir = 1
      · rw [if_pos h1, h1, path_root, Bool.eq_iff_iff]
        simp
        omega
      · rw [if_neg h1]
        obtain ⟨-, k2⟩ := path_ne hw.toWf0 hd (by rw [hdn]; exact h1)
        rw [hdn] at k2
        have k3 : (path s.objs.l dir != [47]) = true := by simpa using k2
        rw [k3, Bool.eq_iff_iff]
        simp only [Bool.cond_true_left, Bool.cond_true_right, cond_true, Bool.or_eq_true, decide_eq_true_eq]
        omega
    have hrl : (rpath s.objs.l dir).length ≤ 256 := by
      unfold rpath
      split
      · simp
      · exact hps
    have w1 : IntKind.i64.wrap (((rpath s.objs.l dir).length : Int) + (name.length : Int)) = ((rpath s.objs.l dir).length : Int) + (name.length : Int) := wrap_i64 (by omega) (by omega)
    have w2 : IntKind.i64.wrap (((rpath s.objs.l dir).length : Int) + 1) = ((rpath s.objs.l dir).length : Int) + 1 := wrap_i64 (by omega) (by omega)
    have w3 : IntKind.i64.wrap (((rpath s.objs.l dir).length : Int) + 1 + (name.length : Int)) = ((rpath s.objs.l dir).length : Int) + 1 + (name.length : Int) := wrap_i64 (by omega) (by omega)
    generalize hRP : rpath s.objs.l dir = RP at *
    by_cases c6 : 256 < (path s.objs.l dir).length + 1 + name.length
    · refine fail 4 (by rw [hE, if_pos c6]) (by decide) ?_
      have hbk := hbk 4
      rw [decide_eq_true c6] at hlong
      rw [u34]
      by_cases q1 : 256 < (RP.length : Int) + (name.length : Int)
      · simp -implicitDefEqProofs [D34, h39, h0, hix, c1, c1', c2, c3, h49, h50, h38, w1, q1, hbk, -jwrSem.eq_1, -DVal.handBack.eq_2]
      · rw [decide_eq_false q1, cond_false] at hlong
        cases q2 : (RP == [47]) with
        | true => rw [show (RP != [47]) = false by simp [bne, q2]] at hlong; cases hlong
        | false =>
          have q2' : ¬ RP = [47] := by simpa using q2
          rw [show (RP != [47]) = true by simp [bne, q2], cond_true] at hlong
          have q3 : 256 < (RP.length : Int) + 1 + (name.length : Int) := by simpa using hlong
          simp -implicitDefEqProofs [D34, h39, h0, hix, c1, c1', c2, c3, h49, h50, h38, w1, w2, w3, q1, q2, q2', q3, hbk, -jwrSem.eq_1, -DVal.handBack.eq_2]
    rw [if_neg c6] at hE
    rw [decide_eq_false c6] at hlong
    have q1 : ¬ 256 < (RP.length : Int) + (name.length : Int) := fun h => by rw [decide_eq_true h, cond_true] at hlong; cases hlong
    rw [decide_eq_false q1, cond_false] at hlong
    -- what is asked of the path
    by_cases c7 : 256 ≤ s.objs.l.length
    · refine fail 25 (by rw [hE, if_pos c7]) (by decide) ?_
      have c7' : (256 : Int) ≤ (s.objs.l.length : Int) := by omega
      have hbk := hbk 25
      rw [u34]
      cases q2 : (RP == [47]) with
      | true =>
        have q2' : RP = [47] := by simpa using q2
        subst q2'
        simp only [List.length_cons, List.length_nil, Nat.zero_add, Int.natCast_one] at w1 q1
        simp -implicitDefEqProofs [D34, h39, h0, hix, c1, c1', c2, c3, h49, h50, h38, w1, q1, c7', hbk, -jwrSem.eq_1, -DVal.handBack.eq_2]
      | false =>
        have q2' : ¬ RP = [47] := by simpa using q2
        rw [show (RP != [47]) = true by simp [bne, q2], cond_true] at hlong
        have q3 : ¬ 256 < (RP.length : Int) + 1 + (name.length : Int) := by simpa using hlong
        simp -implicitDefEqProofs [D34, h39, h0, hix, c1, c1', c2, c3, h49, h50, h38, w1, w2, w3, q1, q2, q2', q3, c7', hbk, -jwrSem.eq_1, -DVal.handBack.eq_2]
    rw [if_neg c7] at hE
    have c7' : ¬ (256 : Int) ≤ (s.objs.l.length : Int) := by omega
    have hav : addV s.objs.l s.last dir name kind label = ((s.objs.l ++ [⟨s.last + 1, dir, name, kind, label⟩], s.last + 1), s.last + 1, 0) := by unfold addV; rw [if_pos hE]
    rw [hav]
    have hlp := hw.last_pos
    have w5 : IntKind.i64.wrap (s.last + 1) = s.last + 1 := wrap_i64 (by omega) (by omega)
    have b1 : POp.sem (cpJ PR n) [.int .i64 (s.last + 1)] (.build [.nils, (.int .i64 0)] [(1, 1)]) = some (StaV.mk ⟨.nil, []⟩ (s.last + 1)).d := rfl
    have b2 : POp.sem (cpJ PR n) [] (.bslice false 5) = some (.slice false 1 5 []) := rfl
    obtain ⟨v1, σ1, s1, o1⟩ := own_app (x := slD s.objs.z 5 (s.objs.l.map ObjV.row)) (new := s.objs.l.map ObjV.row) (own_lit emptySto 5 []) elems_slD szOk_slD (by simp; omega)
    rw [List.nil_append] at o1
    have b3 : POp.sem (cpJ PR n) [.int .i64 (s.last + 1), .int .i64 dir, .str name, .int .i64 kind, .int .i64 label] (.build [(.int .i64 0), (.int .i64 0), (.str []), (.int .i64 0), (.int .i64 0)] [(0, 1), (1, 1), (2, 1), (3, 1), (4, 1)]) = some (⟨s.last + 1, dir, name, kind, label⟩ : ObjV).d := rfl
    have b4 := ObjV_slice (cpJ PR n) ⟨s.last + 1, dir, name, kind, label⟩
    obtain ⟨v2, σ2, s2, o2⟩ := own_one (own := 1) (r := (⟨s.last + 1, dir, name, kind, label⟩ : ObjV).row) o1 (by simp; omega)
    rw [show s.objs.l.map ObjV.row ++ [(⟨s.last + 1, dir, name, kind, label⟩ : ObjV).row] = (s.objs.l ++ [(⟨s.last + 1, dir, name, kind, label⟩ : ObjV)]).map ObjV.row by simp] at o2
    obtain ⟨z, hz⟩ := back_raw (last := s.last + 1) (rest := [.int .i64 (s.last + 1), .int .i64 0]) o2 rfl
    refine ⟨z, ?_⟩
    have b0 := StaV_wr (StaV.mk ⟨.nil, []⟩ (s.last + 1)) .nils (.int .i64 0)
    have b01 := StaV_f_last (StaV.mk ⟨.nil, []⟩ (s.last + 1))
    have b5 := raw_set (z := ⟨.nil, []⟩) (last := s.last + 1) (own_cells o2) (own_okCell o2)
    have b6 := raw_wr (last := s.last + 1) (own_okCell o2)
    have b7 : fldSem 0 (some 2) [rawS v2 (s.last + 1)] = some (rawS v2 (s.last + 1)) := rfl
    have b8 : fldSem 1 none [rawS v2 (s.last + 1)] = some (.int .i64 (s.last + 1)) := rfl
    have b9 := raw_okVal (last := s.last + 1) (own_okCell o2)
    simp only [] at b01
    rw [u34]
    generalize (StaV.mk ⟨.nil, []⟩ (s.last + 1)).d = S0 at *
    generalize (StaV.mk ⟨z, s.objs.l ++ [⟨s.last + 1, dir, name, kind, label⟩]⟩ (s.last + 1)).d = SZ at *
    generalize (⟨s.last + 1, dir, name, kind, label⟩ : ObjV).row = OR at *
    generalize (⟨s.last + 1, dir, name, kind, label⟩ : ObjV).d = OD at *
    generalize rawS v2 (s.last + 1) = RS at *
    cases q2 : (RP == [47]) with
    | true =>
      have q2' : RP = [47] := by simpa using q2
      subst q2'
      simp only [List.length_cons, List.length_nil, Nat.zero_add, Int.natCast_one] at w1 q1
      simp -implicitDefEqProofs [D34, h39, h0, hix, c1, c1', c2, c3, h49, h50, h38, w1, q1, c7', w5, b0, b01, b1, b2, b3, b4, b5, b6, b7, b8, b9, s1, s2, hz, -jwrSem.eq_1, -DVal.handBack.eq_2, -POp.sem.eq_17, -POp.sem.eq_18, -fldSem.eq_1]
    | false =>
      have q2' : ¬ RP = [47] := by simpa using q2
      rw [show (RP != [47]) = true by simp [bne, q2], cond_true] at hlong
      have q3 : ¬ 256 < (RP.length : Int) + 1 + (name.length : Int) := by simpa using hlong
      simp -implicitDefEqProofs [D34, h39, h0, hix, c1, c1', c2, c3, h49, h50, h38, w1, w2, w3, q1, q2, q2', q3, c7', w5, b0, b01, b1, b2, b3, b4, b5, b6, b7, b8, b9, s1, s2, hz, -jwrSem.eq_1, -DVal.handBack.eq_2, -POp.sem.eq_17, -POp.sem.eq_18, -fldSem.eq_1]
theorem cut_slD {z : Zs} {l : List ObjV} {i : Nat} (hi : i < l.length) : slcVSem 5 false true false [slD z 5 (l.map ObjV.row), .int .i64 i] = some (slD (z.part (l.map ObjV.row)) 5 ((l.take i).map ObjV.row)) ∧
    slcVSem 5 true false false [slD z 5 (l.map ObjV.row), .int .i64 ((i : Int) + 1)] = some (slD .full 5 ((l.drop (i + 1)).map ObjV.row)) := by
  constructor
  · rw [take_slD, if_pos ⟨by omega, by simp; omega⟩]
    simp
  · cases l with
    | nil => simp at hi
    | cons x l =>
      have h : ∃ own, own ≤ 1 ∧ slD z 5 ((x :: l).map ObjV.row) = .slice false own 5 ((x :: l).map ObjV.row) := by
        cases z
        · exact ⟨0, by decide, rfl⟩
        · exact ⟨0, by decide, rfl⟩
        · exact ⟨0, by decide, rfl⟩
        · exact ⟨1, by decide, rfl⟩
      obtain ⟨own, ho, e⟩ := h
      rw [e]
      have h1 : (0 : Int) ≤ (i : Int) + 1 := by omega
      have h2 : (i : Int) + 1 ≤ (l.length : Int) + 1 := by simp at hi; omega
      have h3 : ((i : Int) + 1).toNat = i + 1 := by omega
      have h4 : List.take (l.length - i) ((l.map ObjV.row).drop i) = (l.map ObjV.row).drop i := List.take_of_length_le (by simp)
      simp [slcVSem, bounds, h1, h2, h3, h4, slD]
theorem e35 {n : Nat} (s : StaV) (hw : Wf s.objs.l s.last) (hb : s.last ≤ 1000) (k : Int) (hn : 300000 ≤ n) :
    ∃ z, cpJ PR n 35 [s.d, .int .i64 k] = some (.tup [(StaV.mk ⟨z, (remV s.objs.l k).1⟩ s.last).d, .int .i64 (remV s.objs.l k).2]) := by
  obtain ⟨n, rfl⟩ : ∃ m, n = m + 1 := ⟨n - 1, by omega⟩
  have hlen := hw.len
  have h39 := e39 (n := n) s (by omega) (by omega) k
  obtain ⟨zc, h22⟩ := e22 (n := n) s (by omega) (by omega) k
  have hst : (slD zc 1 (numR (chl s.objs.l k))).stale = slD zc 1 (numR (chl s.objs.l k)) := by simp
  have hls : lenSlSem [slD zc 1 (numR (chl s.objs.l k))] = some (.int .i64 (chl s.objs.l k).length) := by simp [numR]
  have hcl := (chl_perm s.objs.l k).length_eq
  have fail : ∀ e, remE s.objs.l k = e → e ≠ 0 → cpJ PR (n + 1) 35 [s.d, .int .i64 k] = some (.tup [s.d, .int .i64 e]) →
      ∃ z, cpJ PR (n + 1) 35 [s.d, .int .i64 k] = some (.tup [(StaV.mk ⟨z, (remV s.objs.l k).1⟩ s.last).d, .int .i64 (remV s.objs.l k).2]) := fun e h1 h2 h3 => by
    have : remV s.objs.l k = (s.objs.l, e) := by unfold remV; rw [h1, if_neg h2]
    rw [this]
    exact ⟨s.objs.z, h3⟩
  have hbk : ∀ e σ, (DVal.tup [s.d, .int .i64 e]).handBack σ = some (.tup [s.d, .int .i64 e]) := fun e σ => sta_tup s _ rfl σ
  unfold idxI at h39
  generalize slD zc 1 (numR (chl s.objs.l k)) = SC at *
  cases hf : fo s.objs.l k with
  | none =>
    rw [hf] at h39
    have hbk := hbk 11
    refine fail 11 (by unfold remE; rw [hf]) (by decide) ?_
    rw [u35]
    simp -implicitDefEqProofs [D35, h39, hbk, -jwrSem.eq_1, -DVal.handBack.eq_2]
  | some r =>
    obtain ⟨i, x⟩ := r
    obtain ⟨hix, hx, rfl⟩ := fo_some hf
    rw [hf] at h39
    have h0 : ¬ ((i : Int) < 0) := by omega
    have hE : remE s.objs.l x.num = if x.num = 1 ∨ kids s.objs.l x.num ≠ [] then 23 else 0 := by unfold remE; rw [hf]
    by_cases c1 : x.num = 1
    · refine fail 23 (by rw [hE, if_pos (.inl c1)]) (by decide) ?_
      have hbk := hbk 23
      rw [u35]
      generalize x.num = k at *
      subst c1
      simp -implicitDefEqProofs [D35, h39, h0, hbk, -jwrSem.eq_1, -DVal.handBack.eq_2]
    have c1' : (x.num == 1) = false := by simpa using c1
    by_cases c2 : kids s.objs.l x.num ≠ []
    · refine fail 23 (by rw [hE, if_pos (.inr c2)]) (by decide) ?_
      have c2' : 0 < (chl s.objs.l x.num).length := by rw [hcl]; exact List.length_pos_iff.2 c2
      have hbk := hbk 23
      rw [u35]
      simp -implicitDefEqProofs [D35, h39, h0, c1, c1', h22, hst, hls, c2', hbk, -jwrSem.eq_1, -DVal.handBack.eq_2]
    replace c2 : kids s.objs.l x.num = [] := Decidable.not_not.1 c2
    have c2' : ¬ 0 < (chl s.objs.l x.num).length := by rw [hcl, c2]; simp
    have hrv : remV s.objs.l x.num = (s.objs.l.filter (fun y => y.num != x.num), 0) := by unfold remV; rw [if_pos (by rw [hE, if_neg (by simp [c1, c2])])]
    rw [hrv]
    have hil : i < s.objs.l.length := (List.getElem?_eq_some_iff.1 hix).1
    obtain ⟨t1, t2⟩ := cut_slD (z := s.objs.z) hil
    have hers : s.objs.l.take i ++ s.objs.l.drop (i + 1) = s.objs.l.filter fun y => y.num != x.num := by
      rw [← List.eraseIdx_eq_take_drop_succ]
      have he := erase_first (i := 0) (m := i) (x := x) (by rw [Nat.zero_add]; exact hf) (num_apart hw.toWf0 x.num)
      rw [he, ne_comm_num]
    have w1 : IntKind.i64.wrap ((i : Int) + 1) = (i : Int) + 1 := wrap_i64 (by omega) (by omega)
    have b1 : POp.sem (cpJ PR n) [.int .i64 s.last] (.build [.nils, (.int .i64 0)] [(1, 1)]) = some (StaV.mk ⟨.nil, []⟩ s.last).d := rfl
    have b2 : POp.sem (cpJ PR n) [] (.bslice false 5) = some (.slice false 1 5 []) := rfl
    obtain ⟨v1, σ1, s1, o1⟩ := own_app (x := slD (s.objs.z.part (s.objs.l.map ObjV.row)) 5 ((s.objs.l.take i).map ObjV.row)) (new := (s.objs.l.take i).map ObjV.row) (own_lit emptySto 5 []) elems_slD szOk_slD (by simp; omega)
    rw [List.nil_append] at o1
    obtain ⟨v2, σ2, s2, o2⟩ := own_app (x := slD .full 5 ((s.objs.l.drop (i + 1)).map ObjV.row)) (new := (s.objs.l.drop (i + 1)).map ObjV.row) o1 elems_slD szOk_slD (by simp; omega)
    rw [← List.map_append, hers] at o2
    obtain ⟨z, hz⟩ := back_raw (last := s.last) (rest := [.int .i64 0]) o2 rfl
    refine ⟨z, ?_⟩
    have b0 := StaV_wr (StaV.mk ⟨.nil, []⟩ s.last) .nils (.int .i64 0)
    have b5 := raw_set (z := ⟨.nil, []⟩) (last := s.last) (own_cells o2) (own_okCell o2)
    have b6 := raw_wr (last := s.last) (own_okCell o2)
    have b7 : fldSem 0 (some 2) [rawS v2 s.last] = some (rawS v2 s.last) := rfl
    have b9 := raw_okVal (last := s.last) (own_okCell o2)
    rw [u35]
    generalize (StaV.mk ⟨.nil, []⟩ s.last).d = S0 at *
    generalize slD (s.objs.z.part (s.objs.l.map ObjV.row)) 5 ((s.objs.l.take i).map ObjV.row) = T1 at *
    generalize slD .full 5 ((s.objs.l.drop (i + 1)).map ObjV.row) = T2 at *
    generalize rawS v2 s.last = RS at *
    simp -implicitDefEqProofs [D35, h39, h0, c1, c1', h22, hst, hls, c2', w1, t1, t2, b0, b1, b2, b5, b6, b7, b9, s1, s2, hz, -jwrSem.eq_1, -DVal.handBack.eq_2, -POp.sem.eq_17, -POp.sem.eq_18, -fldSem.eq_1, -take_slD, -slcVSem.eq_1, -slcVSem.eq_2, -slcVSem.eq_3]
theorem e36 {n : Nat} (s : StaV) (hw : Wf s.objs.l s.last) (k lab : Int) (hn : 1000 ≤ n) :
    ∃ z, cpJ PR n 36 [s.d, .int .i64 k, .int .i64 lab] = some (.tup [(StaV.mk ⟨z, (labV s.objs.l k lab).1⟩ s.last).d, .int .i64 (labV s.objs.l k lab).2]) := by
  obtain ⟨n, rfl⟩ : ∃ m, n = m + 1 := ⟨n - 1, by omega⟩
  have hlen := hw.len
  have h39 := e39 (n := n) s (by omega) (by omega) k
  unfold idxI at h39
  unfold labV hasN
  cases hf : fo s.objs.l k with
  | none =>
    rw [hf] at h39
    have hbk : ∀ σ, (DVal.tup [s.d, .int .i64 11]).handBack σ = some (.tup [s.d, .int .i64 11]) := fun σ => sta_tup s _ rfl σ
    refine ⟨s.objs.z, ?_⟩
    rw [u36]
    show _ = some (DVal.tup [s.d, .int .i64 11])
    simp -implicitDefEqProofs [D36, h39, hbk, -jwrSem.eq_1, -DVal.handBack.eq_2]
  | some r =>
    obtain ⟨i, x⟩ := r
    obtain ⟨hix, hx, rfl⟩ := fo_some hf
    rw [hf] at h39
    have h0 : ¬ ((i : Int) < 0) := by omega
    have hil : i < s.objs.l.length := (List.getElem?_eq_some_iff.1 hix).1
    have b2 : POp.sem (cpJ PR n) [] (.bslice false 5) = some (.slice false 1 5 []) := rfl
    obtain ⟨τ1, e1⟩ : ∃ τ, τ = emptySto.new (.agg (s.objs.l.map ObjV.row).flatten) := ⟨_, rfl⟩
    have s1 : appMSem 5 emptySto [.slice false 1 5 [], slD s.objs.z 5 (s.objs.l.map ObjV.row)] = some (.mslice 5 emptySto.nobj 0 s.objs.l.length none, τ1) := by
      have h1 : elemsM emptySto (slD s.objs.z 5 (s.objs.l.map ObjV.row)) = some (false, s.objs.l.map ObjV.row) := elemsM_of elems_slD
      have h2 : (s.objs.l.map ObjV.row).isEmpty = false := by
        cases hl : s.objs.l with
        | nil => rw [hl] at hil; simp at hil
        | cons a l => rfl
      have h3 : s.objs.l.length ≤ maxAppend := by simp [maxAppend]; omega
      have h4 : (slD s.objs.z 5 (s.objs.l.map ObjV.row)).szOk 5 = true := szOk_slD
      have h5 : tightOf emptySto 5 (.slice false 1 5 []) = some [] := rfl
      simp only [appMSem, h1, h4, h5, h2, List.length_nil, Nat.zero_add, List.length_map, h3, if_true, Bool.not_true, Bool.false_eq_true, if_false, List.nil_append, e1]
      rfl
    have n1 : emptySto.nobj < τ1.nobj := by rw [e1]; exact Nat.lt_succ_self _
    have o1 : τ1.obj emptySto.nobj = .agg (s.objs.l.map ObjV.row).flatten := by rw [e1]; simp
    have hw1 : writeCells x.row 4 [.int .i64 lab] = some ({ x with label := lab } : ObjV).row := rfl
    have hw2 := wr_flat (f := ObjV.row) (k := 5) ObjV_len (o := 4) (new := [.int .i64 lab]) (by simp) hix hw1
    rw [set_lab hw.sorted hix lab] at hw2
    obtain ⟨τ2, e2⟩ : ∃ τ, τ = τ1.put emptySto.nobj (.agg (((s.objs.l.map (relab x.num lab)).map ObjV.row).flatten)) := ⟨_, rfl⟩
    have s2 : stOSem τ1 1 [.obj emptySto.nobj (i * 5 + 4), .int .i64 lab] = some (.undef, τ2) := by
      rw [st_obj (k := 1) o1 n1 rfl rfl, e2]
      show (writeCells _ (i * 5 + 4) [.int .i64 lab]).map _ = _
      rw [hw2]
      rfl
    have n2 : emptySto.nobj < τ2.nobj := by rw [e2]; exact n1
    have o2 : τ2.obj emptySto.nobj = .agg ((s.objs.l.map (relab x.num lab)).map ObjV.row).flatten := by rw [e2]; simp
    have hix2 : idxSSem 5 [.mslice 5 emptySto.nobj 0 s.objs.l.length none, .int .i64 i] = some (.obj emptySto.nobj (i * 5)) := by
      simp [idxSSem, hil]
    have hsn : (DVal.tup [rawS (.mslice 5 emptySto.nobj 0 s.objs.l.length none) s.last, .int .i64 0]).handBack τ2 = some (.tup [(StaV.mk ⟨.full, s.objs.l.map (relab x.num lab)⟩ s.last).d, .int .i64 0]) := by
      have hm : snapM τ2 5 emptySto.nobj 0 s.objs.l.length = some ((s.objs.l.map (relab x.num lab)).map ObjV.row) := by
        unfold snapM
        rw [if_pos n2, o2]
        have := snap_flat (f := ObjV.row) (k := 5) ObjV_len ObjV_cells (s.objs.l.map (relab x.num lab))
        rw [List.length_map] at this
        simpa using this
      have h1 : snapCells τ2 [.mslice 5 emptySto.nobj 0 s.objs.l.length none, .int .i64 s.last] = some [slD .full 5 ((s.objs.l.map (relab x.num lab)).map ObjV.row), .int .i64 s.last] := by
        show (match (snapM τ2 5 emptySto.nobj 0 s.objs.l.length).map (DVal.slice false 0 5), some [DVal.int .i64 s.last] with | some d, some ds => some (d :: ds) | _, _ => none) = _
        rw [hm]
        rfl
      have h2 : (rawS (.mslice 5 emptySto.nobj 0 s.objs.l.length none) s.last).snapVal τ2 = some (StaV.mk ⟨.full, s.objs.l.map (relab x.num lab)⟩ s.last).d := by
        show (snapCells τ2 _).map DVal.agg = _
        rw [h1]
        rfl
      show ((sealVals _).or (snapVals τ2 _)).map DVal.tup = _
      have h3 : sealVals [rawS (.mslice 5 emptySto.nobj 0 s.objs.l.length none) s.last, .int .i64 0] = none := rfl
      have h4 : snapVals τ2 [rawS (.mslice 5 emptySto.nobj 0 s.objs.l.length none) s.last, .int .i64 0] = some [(StaV.mk ⟨.full, s.objs.l.map (relab x.num lab)⟩ s.last).d, .int .i64 0] := by
        simp only [snapVals, h2]
        rfl
      rw [h3, h4]
      rfl
    refine ⟨.full, ?_⟩
    have hok : (DVal.mslice 5 emptySto.nobj 0 s.objs.l.length none).okCell = true := rfl
    have b1 : POp.sem (cpJ PR n) [.int .i64 s.last, .mslice 5 emptySto.nobj 0 s.objs.l.length none] (.build [.nils, (.int .i64 0)] [(1, 1), (0, 1)]) = some (rawS (.mslice 5 emptySto.nobj 0 s.objs.l.length none) s.last) := rfl
    have b6 := raw_wr (last := s.last) hok
    have b7 : fldSem 0 (some 2) [rawS (.mslice 5 emptySto.nobj 0 s.objs.l.length none) s.last] = some (rawS (.mslice 5 emptySto.nobj 0 s.objs.l.length none) s.last) := rfl
    have b8 : fldSem 0 none [rawS (.mslice 5 emptySto.nobj 0 s.objs.l.length none) s.last] = some (.mslice 5 emptySto.nobj 0 s.objs.l.length none) := rfl
    have b9 := raw_okVal (last := s.last) hok
    have hoff : offSem 4 [.obj emptySto.nobj (i * 5)] = some (.obj emptySto.nobj (i * 5 + 4)) := rfl
    rw [u36]
    generalize rawS (.mslice 5 emptySto.nobj 0 s.objs.l.length none) s.last = RS at *
    generalize DVal.mslice 5 emptySto.nobj 0 s.objs.l.length none = MS at *
    generalize DVal.obj emptySto.nobj (i * 5) = A1 at *
    generalize DVal.obj emptySto.nobj (i * 5 + 4) = A2 at *
    simp -implicitDefEqProofs [D36, h39, h0, b1, b2, b6, b7, b8, b9, hoff, hix2, s1, s2, hsn, -jwrSem.eq_1, -DVal.handBack.eq_2, -POp.sem.eq_17, -POp.sem.eq_18, -fldSem.eq_1]
end
end Go.Proofs.YtklepphkbbjbjaaDoor
