/- Texts of this proof, part 6: see the card for what is proved. -/
import Derived.Test.YtagkgekpfgepoaaDoorPf00
import Derived.Lib.IndexMore
import Derived.Lib.Join
import Derived.Lib.Split
import Derived.Lib.IndexAny
import Derived.Lib.CountLaws
import Derived.Lib.AtoiTie
import Derived.Lib.ItoaNum
import Derived.Test.YtagkgekpfgepoaaDoorPf04
import Derived.Test.YtagkgekpfgepoaaDoorPf03
import Derived.KernelRfl
import Derived.Test.YtagkgekpfgepoaaDoorPf05
import Derived.Lib.SplitLaws
namespace Go.Proofs.YtagkgekpfgepoaaDoor

open Go
def strsOf : List (List DVal) → Option (List (List UInt8))
  | [] => some []
  | [.str s] :: es => (strsOf es).map (s :: ·)
  | _ => none
def joinSem : List DVal → Option DVal
  | [.slice false _ 1 es, .str sep] => (strsOf es).bind fun xs => if xs.length ≤ 140737488355328 ∧ (Lib.join xs sep).length ≤ 140737488355328 then some (.str (Lib.join xs sep)) else none
  | [.nils, .str _] => some (.str [])
  | _ => none
def genSplitSem : List DVal → Option DVal
  | [.str s, .str sep, .int .i64 0, .int .i64 (-1)] => if s.length < 4294967281 ∧ 1 ≤ sep.length then some (.slice false 0 1 ((Lib.splitN s sep (Lib.count s sep + 1)).map fun x => [.str x])) else none
  | _ => none
def atoiSem : List DVal → Option DVal
  | [.str s] => if s.length < 4294967281 then some (match Lib.atoiAll s with | .ok v => .tup [.int .i64 v, .nilI] | .range => .tup [.int .i64 (Lib.atoiSat s), .err] | _ => .tup [.int .i64 0, .err]) else none
  | _ => none
def fmtIntSem : List DVal → Option DVal
  | [.int .i64 n, .int .i64 10] => if -9223372036854775808 ≤ n ∧ n ≤ 9223372036854775807 then some (.str (Lib.itoa n)) else none
  | _ => none
end Go.Proofs.YtagkgekpfgepoaaDoor
namespace Go.Proofs.YtagkgekpfgepoaaDoor
set_option linter.unusedVariables false
set_option maxRecDepth 100000
open Go
def table : List (Nat × JFun) :=
  [(51, .prim joinSem), (52, .prim atoiSem), (53, .prim genSplitSem), (66, .prim fmtIntSem), (5, .body 3 T5), (7, .body 1 T7), (8, .body 1 T8), (9, .body 0 T9), (10, .body 3 T10), (12, .body 1 T12), (13, .body 1 T13), (14, .body 1 T14), (15, .body 2 T15), (16, .body 1 T16), (17, .body 2 T17), (18, .body 2 T18), (19, .body 2 T19), (20, .body 1 T20), (21, .body 2 T21), (22, .body 1 T22), (23, .body 1 T23), (24, .body 1 T24), (25, .body 1 T25), (26, .body 3 T26), (27, .body 1 T27), (28, .body 1 T28), (29, .body 1 T29), (30, .body 1 T30), (31, .body 2 T31), (32, .body 3 T32), (33, .body 1 T33), (34, .body 2 T34), (35, .body 2 T35), (36, .body 2 T36), (37, .body 2 T37), (38, .rbody 1 T38), (39, .body 1 T39), (40, .body 1 T40), (41, .body 2 T41), (42, .body 1 T42), (43, .body 1 T43), (44, .body 1 T44), (45, .body 2 T45), (46, .body 1 T46), (47, .body 2 T47), (48, .rbody 2 T48), (49, .body 3 T49), (50, .body 1 T50), (54, .body 1 T54), (55, .body 1 T55), (56, .body 3 T56), (57, .body 1 T57)]
def PR : Nat → Option JFun := progJ table
theorem u5 (n : Nat) (x0 x1 x2 : DVal) : cpJ PR (n + 1) 5 [x0, x1, x2] = finP (D5 (cpJ PR n) (ciJ PR n) n x0 x1 x2 emptySto) := by kernel_rfl
theorem v5 (n : Nat) (x0 x1 x2 : DVal) (σ : Sto) : ciJ PR (n + 1) 5 [x0, x1, x2] σ = finI (D5 (cpJ PR n) (ciJ PR n) n x0 x1 x2 σ) := by kernel_rfl
theorem u7 (n : Nat) (x0 : DVal) : cpJ PR (n + 1) 7 [x0] = finP (D7 (cpJ PR n) (ciJ PR n) n x0 emptySto) := by kernel_rfl
theorem u8 (n : Nat) (x0 : DVal) : cpJ PR (n + 1) 8 [x0] = finP (D8 (cpJ PR n) (ciJ PR n) n x0 emptySto) := by kernel_rfl
theorem u9 (n : Nat) : cpJ PR (n + 1) 9 [] = finP (D9 (cpJ PR n) (ciJ PR n) n  emptySto) := by kernel_rfl
theorem v9 (n : Nat) (σ : Sto) : ciJ PR (n + 1) 9 [] σ = finI (D9 (cpJ PR n) (ciJ PR n) n  σ) := by kernel_rfl
theorem v10 (n : Nat) (x0 x1 x2 : DVal) (σ : Sto) : ciJ PR (n + 1) 10 [x0, x1, x2] σ = finI (D10 (cpJ PR n) (ciJ PR n) n x0 x1 x2 σ) := by kernel_rfl
theorem v12 (n : Nat) (x0 : DVal) (σ : Sto) : ciJ PR (n + 1) 12 [x0] σ = finI (D12 (cpJ PR n) (ciJ PR n) n x0 σ) := by kernel_rfl
theorem v13 (n : Nat) (x0 : DVal) (σ : Sto) : ciJ PR (n + 1) 13 [x0] σ = finI (D13 (cpJ PR n) (ciJ PR n) n x0 σ) := by kernel_rfl
theorem u14 (n : Nat) (x0 : DVal) : cpJ PR (n + 1) 14 [x0] = finP (D14 (cpJ PR n) (ciJ PR n) n x0 emptySto) := by kernel_rfl
theorem v15 (n : Nat) (x0 x1 : DVal) (σ : Sto) : ciJ PR (n + 1) 15 [x0, x1] σ = finI (D15 (cpJ PR n) (ciJ PR n) n x0 x1 σ) := by kernel_rfl
theorem v16 (n : Nat) (x0 : DVal) (σ : Sto) : ciJ PR (n + 1) 16 [x0] σ = finI (D16 (cpJ PR n) (ciJ PR n) n x0 σ) := by kernel_rfl
theorem u17 (n : Nat) (x0 x1 : DVal) : cpJ PR (n + 1) 17 [x0, x1] = finP (D17 (cpJ PR n) (ciJ PR n) n x0 x1 emptySto) := by kernel_rfl
theorem u18 (n : Nat) (x0 x1 : DVal) : cpJ PR (n + 1) 18 [x0, x1] = finP (D18 (cpJ PR n) (ciJ PR n) n x0 x1 emptySto) := by kernel_rfl
theorem v19 (n : Nat) (x0 x1 : DVal) (σ : Sto) : ciJ PR (n + 1) 19 [x0, x1] σ = finI (D19 (cpJ PR n) (ciJ PR n) n x0 x1 σ) := by kernel_rfl
theorem v20 (n : Nat) (x0 : DVal) (σ : Sto) : ciJ PR (n + 1) 20 [x0] σ = finI (D20 (cpJ PR n) (ciJ PR n) n x0 σ) := by kernel_rfl
theorem v21 (n : Nat) (x0 x1 : DVal) (σ : Sto) : ciJ PR (n + 1) 21 [x0, x1] σ = finI (D21 (cpJ PR n) (ciJ PR n) n x0 x1 σ) := by kernel_rfl
theorem u22 (n : Nat) (x0 : DVal) : cpJ PR (n + 1) 22 [x0] = finP (D22 (cpJ PR n) (ciJ PR n) n x0 emptySto) := by kernel_rfl
theorem u23 (n : Nat) (x0 : DVal) : cpJ PR (n + 1) 23 [x0] = finP (D23 (cpJ PR n) (ciJ PR n) n x0 emptySto) := by kernel_rfl
theorem u24 (n : Nat) (x0 : DVal) : cpJ PR (n + 1) 24 [x0] = finP (D24 (cpJ PR n) (ciJ PR n) n x0 emptySto) := by kernel_rfl
theorem u25 (n : Nat) (x0 : DVal) : cpJ PR (n + 1) 25 [x0] = finP (D25 (cpJ PR n) (ciJ PR n) n x0 emptySto) := by kernel_rfl
theorem v26 (n : Nat) (x0 x1 x2 : DVal) (σ : Sto) : ciJ PR (n + 1) 26 [x0, x1, x2] σ = finI (D26 (cpJ PR n) (ciJ PR n) n x0 x1 x2 σ) := by kernel_rfl
theorem v27 (n : Nat) (x0 : DVal) (σ : Sto) : ciJ PR (n + 1) 27 [x0] σ = finI (D27 (cpJ PR n) (ciJ PR n) n x0 σ) := by kernel_rfl
theorem u28 (n : Nat) (x0 : DVal) : cpJ PR (n + 1) 28 [x0] = finP (D28 (cpJ PR n) (ciJ PR n) n x0 emptySto) := by kernel_rfl
theorem u29 (n : Nat) (x0 : DVal) : cpJ PR (n + 1) 29 [x0] = finP (D29 (cpJ PR n) (ciJ PR n) n x0 emptySto) := by kernel_rfl
theorem u30 (n : Nat) (x0 : DVal) : cpJ PR (n + 1) 30 [x0] = finP (D30 (cpJ PR n) (ciJ PR n) n x0 emptySto) := by kernel_rfl
theorem u31 (n : Nat) (x0 x1 : DVal) : cpJ PR (n + 1) 31 [x0, x1] = finP (D31 (cpJ PR n) (ciJ PR n) n x0 x1 emptySto) := by kernel_rfl
theorem v31 (n : Nat) (x0 x1 : DVal) (σ : Sto) : ciJ PR (n + 1) 31 [x0, x1] σ = finI (D31 (cpJ PR n) (ciJ PR n) n x0 x1 σ) := by kernel_rfl
theorem u32 (n : Nat) (x0 x1 x2 : DVal) : cpJ PR (n + 1) 32 [x0, x1, x2] = finP (D32 (cpJ PR n) (ciJ PR n) n x0 x1 x2 emptySto) := by kernel_rfl
theorem v32 (n : Nat) (x0 x1 x2 : DVal) (σ : Sto) : ciJ PR (n + 1) 32 [x0, x1, x2] σ = finI (D32 (cpJ PR n) (ciJ PR n) n x0 x1 x2 σ) := by kernel_rfl
theorem u33 (n : Nat) (x0 : DVal) : cpJ PR (n + 1) 33 [x0] = finP (D33 (cpJ PR n) (ciJ PR n) n x0 emptySto) := by kernel_rfl
theorem v34 (n : Nat) (x0 x1 : DVal) (σ : Sto) : ciJ PR (n + 1) 34 [x0, x1] σ = finI (D34 (cpJ PR n) (ciJ PR n) n x0 x1 σ) := by kernel_rfl
theorem v35 (n : Nat) (x0 x1 : DVal) (σ : Sto) : ciJ PR (n + 1) 35 [x0, x1] σ = finI (D35 (cpJ PR n) (ciJ PR n) n x0 x1 σ) := by kernel_rfl
theorem u36 (n : Nat) (x0 x1 : DVal) : cpJ PR (n + 1) 36 [x0, x1] = finP (D36 (cpJ PR n) (ciJ PR n) n x0 x1 emptySto) := by kernel_rfl
theorem u37 (n : Nat) (x0 x1 : DVal) : cpJ PR (n + 1) 37 [x0, x1] = finP (D37 (cpJ PR n) (ciJ PR n) n x0 x1 emptySto) := by kernel_rfl
theorem v37 (n : Nat) (x0 x1 : DVal) (σ : Sto) : ciJ PR (n + 1) 37 [x0, x1] σ = finI (D37 (cpJ PR n) (ciJ PR n) n x0 x1 σ) := by kernel_rfl
theorem v38 (n : Nat) (x0 : DVal) (σ : Sto) : ciJ PR (n + 1) 38 [x0] σ = rdet σ fun o => outR (D38 (cpJ PR n) (ciJ PR n) n x0 { σ with ora := o }) := by kernel_rfl
theorem u39 (n : Nat) (x0 : DVal) : cpJ PR (n + 1) 39 [x0] = finP (D39 (cpJ PR n) (ciJ PR n) n x0 emptySto) := by kernel_rfl
theorem u40 (n : Nat) (x0 : DVal) : cpJ PR (n + 1) 40 [x0] = finP (D40 (cpJ PR n) (ciJ PR n) n x0 emptySto) := by kernel_rfl
theorem u41 (n : Nat) (x0 x1 : DVal) : cpJ PR (n + 1) 41 [x0, x1] = finP (D41 (cpJ PR n) (ciJ PR n) n x0 x1 emptySto) := by kernel_rfl
theorem u42 (n : Nat) (x0 : DVal) : cpJ PR (n + 1) 42 [x0] = finP (D42 (cpJ PR n) (ciJ PR n) n x0 emptySto) := by kernel_rfl
theorem u43 (n : Nat) (x0 : DVal) : cpJ PR (n + 1) 43 [x0] = finP (D43 (cpJ PR n) (ciJ PR n) n x0 emptySto) := by kernel_rfl
theorem u44 (n : Nat) (x0 : DVal) : cpJ PR (n + 1) 44 [x0] = finP (D44 (cpJ PR n) (ciJ PR n) n x0 emptySto) := by kernel_rfl
theorem u45 (n : Nat) (x0 x1 : DVal) : cpJ PR (n + 1) 45 [x0, x1] = finP (D45 (cpJ PR n) (ciJ PR n) n x0 x1 emptySto) := by kernel_rfl
theorem v46 (n : Nat) (x0 : DVal) (σ : Sto) : ciJ PR (n + 1) 46 [x0] σ = finI (D46 (cpJ PR n) (ciJ PR n) n x0 σ) := by kernel_rfl
theorem v47 (n : Nat) (x0 x1 : DVal) (σ : Sto) : ciJ PR (n + 1) 47 [x0, x1] σ = finI (D47 (cpJ PR n) (ciJ PR n) n x0 x1 σ) := by kernel_rfl
theorem v49 (n : Nat) (x0 x1 x2 : DVal) (σ : Sto) : ciJ PR (n + 1) 49 [x0, x1, x2] σ = finI (D49 (cpJ PR n) (ciJ PR n) n x0 x1 x2 σ) := by kernel_rfl
theorem u50 (n : Nat) (x0 : DVal) : cpJ PR (n + 1) 50 [x0] = finP (D50 (cpJ PR n) (ciJ PR n) n x0 emptySto) := by kernel_rfl
theorem u54 (n : Nat) (x0 : DVal) : cpJ PR (n + 1) 54 [x0] = finP (D54 (cpJ PR n) (ciJ PR n) n x0 emptySto) := by kernel_rfl
theorem u55 (n : Nat) (x0 : DVal) : cpJ PR (n + 1) 55 [x0] = finP (D55 (cpJ PR n) (ciJ PR n) n x0 emptySto) := by kernel_rfl
theorem u57 (n : Nat) (x0 : DVal) : cpJ PR (n + 1) 57 [x0] = finP (D57 (cpJ PR n) (ciJ PR n) n x0 emptySto) := by kernel_rfl
end Go.Proofs.YtagkgekpfgepoaaDoor
namespace Go.Proofs.YtagkgekpfgepoaaDoor
set_option linter.unusedVariables false
set_option linter.unusedSimpArgs false
open Go
theorem index_none {c : UInt8} : ∀ {s : Bs}, c ∉ s → Lib.index s [c] = -1
  | [], _ => rfl
  | b :: l, h => by
    simp only [List.mem_cons, not_or] at h
    have := index_none h.2
    have hb : ¬ (c = b) := h.1
    simp [Lib.index, List.isPrefixOf, hb, this]
theorem index_at {c : UInt8} {b : Bs} : ∀ {a : Bs}, c ∉ a → Lib.index (a ++ c :: b) [c] = a.length
  | [], _ => by simp [Lib.index, List.isPrefixOf]
  | x :: a, h => by
    simp only [List.mem_cons, not_or] at h
    have := index_at (b := b) h.2
    have hb : ¬ (c = x) := h.1
    have hne : ¬ ((a.length : Int) = -1) := by omega
    simp [Lib.index, List.isPrefixOf, hb, this, hne]
def joinC (c : UInt8) (p : Bs) (r : List Bs) : Bs := p ++ r.flatMap fun q => c :: q
theorem count_join {c : UInt8} : ∀ {r : List Bs} {p : Bs}, c ∉ p → (∀ q ∈ r, c ∉ q) → Lib.count (joinC c p r) [c] = r.length
  | [], p, hp, _ => by simp [joinC, Lib.count_miss (index_none hp)]
  | q :: r, p, hp, hr => by
    have e : joinC c p (q :: r) = p ++ c :: joinC c q r := by simp [joinC]
    rw [e, Lib.count_hit (by simp) (index_at hp)]
    have : (p ++ c :: joinC c q r).drop (p.length + [c].length) = joinC c q r := by simp
    rw [this, count_join (hr q (by simp)) (fun x hx => hr x (by simp [hx]))]
    simp; omega
theorem splitK_join {c : UInt8} : ∀ {r : List Bs} {p : Bs} {k : Nat}, r.length ≤ k → c ∉ p → (∀ q ∈ r, c ∉ q) → Lib.splitK [c] 0 k (joinC c p r) = p :: r
  | [], p, k, hk, hp, _ => by
    have e : joinC c p [] = p := by simp [joinC]
    rw [e]
    cases k with
    | zero => rfl
    | succ k => simp [Lib.splitK, index_none hp]
  | q :: r, p, k, hk, hp, hr => by
    obtain ⟨k, rfl⟩ : ∃ j, k = j + 1 := ⟨k - 1, by simp at hk; omega⟩
    have e : joinC c p (q :: r) = p ++ c :: joinC c q r := by simp [joinC]
    have hne : ¬ ((p.length : Int) = -1) := by omega
    rw [e, Lib.splitK, index_at hp]
    have : (p ++ c :: joinC c q r).drop (p.length + 1) = joinC c q r := by simp
    simp [hne, this, splitK_join (k := k) (by simp at hk; omega) (hr q (by simp)) (fun x hx => hr x (by simp [hx]))]
theorem joinC_len {c : UInt8} : ∀ {r : List Bs} {p : Bs}, r.length ≤ (joinC c p r).length
  | [], p => by simp
  | q :: r, p => by
    have := joinC_len (c := c) (r := r) (p := q)
    have e : joinC c p (q :: r) = p ++ c :: joinC c q r := by simp [joinC]
    rw [e]
    simp; omega
theorem split_join {c : UInt8} {r : List Bs} {p : Bs} (hp : c ∉ p) (hr : ∀ q ∈ r, c ∉ q) : Lib.splitN (joinC c p r) [c] (Lib.count (joinC c p r) [c] + 1) = p :: r := by
  unfold Lib.splitN
  rw [count_join hp hr]
  exact splitK_join (by have := joinC_len (c := c) (r := r) (p := p); omega) hp hr
theorem split_exists (c : UInt8) : ∀ (s : Bs), ∃ p r, s = joinC c p r ∧ c ∉ p ∧ ∀ q ∈ r, c ∉ q
  | [] => ⟨[], [], rfl, by simp, by simp⟩
  | x :: s => by
    obtain ⟨p, r, rfl, h1, h2⟩ := split_exists c s
    by_cases h : x = c
    · subst h
      exact ⟨[], p :: r, by simp [joinC], by simp, by simpa using ⟨h1, h2⟩⟩
    · exact ⟨x :: p, r, by simp [joinC], by simp [h1, Ne.symm h], h2⟩
def parts (c : UInt8) : Bs → List Bs
  | [] => [[]]
  | b :: s => if b = c then [] :: parts c s else match parts c s with
    | p :: ps => (b :: p) :: ps
    | [] => [[b]]
theorem parts_none {c : UInt8} : ∀ {p : Bs}, c ∉ p → parts c p = [p]
  | [], _ => rfl
  | b :: p, h => by
    simp only [List.mem_cons, not_or] at h
    simp [parts, Ne.symm h.1, parts_none h.2]
theorem parts_at {c : UInt8} : ∀ {p s : Bs}, c ∉ p → parts c (p ++ c :: s) = p :: parts c s
  | [], s, _ => by simp [parts]
  | b :: p, s, h => by
    simp only [List.mem_cons, not_or] at h
    simp [parts, Ne.symm h.1, parts_at h.2]
theorem parts_join {c : UInt8} : ∀ {r : List Bs} {p : Bs}, c ∉ p → (∀ q ∈ r, c ∉ q) → parts c (joinC c p r) = p :: r
  | [], p, hp, _ => by simp [joinC, parts_none hp]
  | q :: r, p, hp, hr => by
    have e : joinC c p (q :: r) = p ++ c :: joinC c q r := by simp [joinC]
    rw [e, parts_at hp, parts_join (hr q (by simp)) (fun x hx => hr x (by simp [hx]))]
theorem split_parts (c : UInt8) (s : Bs) : Lib.splitN s [c] (Lib.count s [c] + 1) = parts c s := by
  obtain ⟨p, r, rfl, hp, hr⟩ := split_exists c s
  rw [split_join hp hr, parts_join hp hr]
theorem parts_len (c : UInt8) (s : Bs) : (parts c s).length ≤ s.length + 1 ∧ ∀ p ∈ parts c s, p.length ≤ s.length := by
  induction s with
  | nil => simp [parts]
  | cons b s ih =>
    unfold parts
    split
    · refine ⟨by simp; omega, fun p hp => ?_⟩
      rcases List.mem_cons.1 hp with rfl | hp
      · simp
      · have := ih.2 p hp; simp; omega
    · split
      · rename_i q qs e
        rw [e] at ih
        refine ⟨by simp at ih ⊢; omega, fun p hp => ?_⟩
        rcases List.mem_cons.1 hp with rfl | hp
        · have := ih.2 q (by simp); simp; omega
        · have := ih.2 p (by simp [hp]); simp; omega
      · simp
end Go.Proofs.YtagkgekpfgepoaaDoor
namespace Go.Proofs.YtagkgekpfgepoaaDoor
set_option linter.unusedVariables false
set_option linter.unusedSimpArgs false
open Go
def letB (b : UInt8) : Bool := (decide (97 ≤ b.toNat) && decide (b.toNat ≤ 122)) || (decide (65 ≤ b.toNat) && decide (b.toNat ≤ 90)) || decide (b.toNat = 95)
def digB (b : UInt8) : Bool := decide (48 ≤ b.toNat) && decide (b.toNat ≤ 57)
def headDig : Bs → Bool
  | [] => false
  | b :: _ => digB b
def nameB (s : Bs) : Bool := !(s == []) && decide (s.length ≤ 32) && !(headDig s) && s.all fun b => letB b || digB b
def kwL : List Bs :=
  [[109, 111, 100, 117, 108, 101],
  [99, 108, 97, 115, 115],
  [116, 121, 112, 101],
  [97, 108, 105, 97, 115],
  [116, 121, 112, 101, 97, 116, 116, 114, 105, 98, 117, 116, 101],
  [97, 116, 116, 114, 105, 98, 117, 116, 101],
  [114, 111, 108, 101],
  [116, 121, 112, 101, 115],
  [114, 111, 108, 101, 97, 108, 108, 111, 119],
  [114, 111, 108, 101, 95, 116, 114, 97, 110, 115, 105, 116, 105, 111, 110],
  [117, 115, 101, 114],
  [114, 111, 108, 101, 115],
  [108, 101, 118, 101, 108],
  [114, 97, 110, 103, 101],
  [98, 111, 111, 108],
  [116, 114, 117, 101],
  [102, 97, 108, 115, 101],
  [115, 101, 110, 115, 105, 116, 105, 118, 105, 116, 121],
  [99, 97, 116, 101, 103, 111, 114, 121],
  [97, 108, 108, 111, 119],
  [97, 117, 100, 105, 116, 97, 108, 108, 111, 119],
  [100, 111, 110, 116, 97, 117, 100, 105, 116],
  [110, 101, 118, 101, 114, 97, 108, 108, 111, 119],
  [116, 121, 112, 101, 95, 116, 114, 97, 110, 115, 105, 116, 105, 111, 110],
  [116, 121, 112, 101, 95, 99, 104, 97, 110, 103, 101],
  [116, 121, 112, 101, 95, 109, 101, 109, 98, 101, 114],
  [114, 97, 110, 103, 101, 95, 116, 114, 97, 110, 115, 105, 116, 105, 111, 110],
  [99, 111, 110, 115, 116, 114, 97, 105, 110],
  [118, 97, 108, 105, 100, 97, 116, 101, 116, 114, 97, 110, 115],
  [105, 102],
  [101, 108, 115, 101],
  [111, 112, 116, 105, 111, 110, 97, 108],
  [114, 101, 113, 117, 105, 114, 101],
  [115, 105, 100],
  [102, 105, 108, 101, 99, 111, 110],
  [112, 101, 114, 109, 105, 115, 115, 105, 118, 101],
  [97, 115, 115, 101, 114, 116],
  [115, 101, 108, 102],
  [105, 110]]
def identB (s : Bs) : Bool := nameB s && !(kwL.contains s)
def prnB (s : Bs) : Bool := (s.all fun b => decide (33 ≤ b.toNat) && decide (b.toNat ≤ 126)) && (decide (1 ≤ s.length) && decide (s.length ≤ 8192))
def permsE : List Bs → List Bs → Int
  | _, [] => 0
  | seen, s :: l => if identB s then (if seen.contains s then 12 else permsE (seen ++ [s]) l) else 10
def rangeOk (r : RecV) : Bool := decide (0 ≤ r.time) && decide (r.time ≤ 1125899906842624) && decide (0 ≤ r.seq) && decide (r.seq ≤ 1125899906842624) && decide (1 ≤ r.count) && decide (r.count ≤ 2147483647)
def chkV (r : RecV) : Int :=
  if rangeOk r then (if prnB r.src && prnB r.tgt then (if identB r.cls then (if r.perms.l.length = 0 then 2 else if 32 < r.perms.l.length then 4 else permsE [] r.perms.l) else 10) else 2) else 3
def sameV (a b : RecV) : Bool := a.gr == b.gr && a.pe == b.pe && a.src == b.src && a.tgt == b.tgt && a.cls == b.cls && a.perms.l == b.perms.l
def decB (n : Int) : Bs := Lib.itoa n
def verbB (g : Bool) : Bs := if g then [103, 114, 97, 110, 116, 101, 100] else [100, 101, 110, 105, 101, 100]
def endsB (r : RecV) : List Bs := [[102, 111, 114], r.src, [116, 111], r.tgt, [58], r.cls, [116, 105, 109, 101], decB r.time, [115, 101, 113], decB r.seq, [99, 111, 117, 110, 116], decB r.count] ++ if r.pe then [[112, 101, 114, 109, 105, 115, 115, 105, 118, 101]] else []
def wordsB (r : RecV) : List Bs := verbB r.gr :: [123] :: (r.perms.l ++ [125] :: endsB r)
def textB (r : RecV) : Bs := Lib.join (wordsB r) [32]
end Go.Proofs.YtagkgekpfgepoaaDoor
namespace Go.Proofs.YtagkgekpfgepoaaDoor
set_option linter.unusedVariables false
set_option linter.unusedSimpArgs false
open Go
theorem dec_digit {k : Nat} (h : k < 10) : Lib.digitVal (UInt8.ofNat (48 + k)) = some k := by
  have e : (UInt8.ofNat (48 + k)).toNat = 48 + k := by
    rw [UInt8.toNat_ofNat']
    omega
  unfold Lib.digitVal
  rw [e, if_pos (by omega)]
  congr 1
  omega
theorem decFrom_snoc (b : UInt8) : ∀ (l : Bs) (acc : Nat), Lib.decFrom acc (l ++ [b]) = (Lib.decFrom acc l).bind fun m => (Lib.digitVal b).map fun d => m * 10 + d
  | [], acc => by
    simp only [List.nil_append, Lib.decFrom, Option.bind_some]
    cases Lib.digitVal b <;> rfl
  | x :: l, acc => by
    simp only [List.cons_append, Lib.decFrom]
    cases Lib.digitVal x with
    | none => rfl
    | some d => exact decFrom_snoc b l _
theorem dec_ne (n : Nat) : Lib.decDigits n ≠ [] := by
  rw [Lib.decDigits]
  split <;> simp
theorem dec_from (n : Nat) : Lib.decFrom 0 (Lib.decDigits n) = some n := by
  induction n using Nat.strongRecOn with
  | _ n ih =>
    rw [Lib.decDigits]
    split
    · rename_i h
      simp only [Lib.decFrom, dec_digit h]
      simp
    · rename_i h
      rw [decFrom_snoc, ih (n / 10) (by omega), Option.bind_some, dec_digit (by omega), Option.map_some]
      congr 1
      omega
theorem dec_bytes (n : Nat) : ∀ b ∈ Lib.decDigits n, digB b = true := by
  induction n using Nat.strongRecOn with
  | _ n ih =>
    have key : ∀ k, k < 10 → digB (UInt8.ofNat (48 + k)) = true := fun k hk => by
      have e : (UInt8.ofNat (48 + k)).toNat = 48 + k := by rw [UInt8.toNat_ofNat']; omega
      unfold digB
      rw [e]
      simp
      omega
    rw [Lib.decDigits]
    split
    · rename_i h
      intro b hb
      rw [List.mem_singleton.1 hb]
      exact key n h
    · rename_i h
      intro b hb
      rcases List.mem_append.1 hb with hb | hb
      · exact ih (n / 10) (by omega) b hb
      · rw [List.mem_singleton.1 hb]
        exact key _ (by omega)
theorem dec_len : ∀ (k n : Nat), n < 10 ^ (k + 1) → (Lib.decDigits n).length ≤ k + 1
  | 0, n, h => by
    rw [Lib.decDigits, dif_pos (by simpa using h)]
    simp
  | k + 1, n, h => by
    rw [Lib.decDigits]
    split
    · simp
    · have : n / 10 < 10 ^ (k + 1) := by
        rw [Nat.pow_succ] at h
        omega
      have := dec_len k (n / 10) this
      simp
      omega
theorem decB_nat (n : Nat) : decB (n : Int) = Lib.decDigits n := by
  unfold decB Lib.itoa
  rw [if_neg (by omega), Int.toNat_natCast]
theorem decB_len {i : Int} (h0 : 0 ≤ i) (h1 : i ≤ 1125899906842624) : (decB i).length ≤ 16 := by
  obtain ⟨n, rfl⟩ := Int.eq_ofNat_of_zero_le h0
  rw [decB_nat]
  exact dec_len 15 n (by omega)
theorem dig_not {b c : UInt8} (h : digB b = true) (hc : digB c = false) : b ≠ c := by
  rintro rfl
  rw [h] at hc; cases hc
theorem decB_no {i : Int} (h0 : 0 ≤ i) {c : UInt8} (hc : digB c = false) : c ∉ decB i := by
  obtain ⟨n, rfl⟩ := Int.eq_ofNat_of_zero_le h0
  rw [decB_nat]
  intro h
  exact dig_not (dec_bytes n c h) hc rfl
theorem atoi_dec {i : Int} (h0 : 0 ≤ i) (h1 : i ≤ 1125899906842624) : Lib.atoiAll (decB i) = .ok i := by
  have hl := decB_len h0 h1
  obtain ⟨n, rfl⟩ := Int.eq_ofNat_of_zero_le h0
  rw [Lib.atoiAll_short _ (by omega)]
  rw [decB_nat] at hl ⊢
  have hb := dec_bytes n
  have hn := dec_ne n
  have hf := dec_from n
  generalize Lib.decDigits n = l at *
  cases l with
  | nil => exact absurd rfl hn
  | cons b r =>
    have hd := hb b (by simp)
    have e1 : (b == 45) = false := by
      have := dig_not hd (c := 45) (by decide)
      simpa using this
    have e2 : (b == 43) = false := by
      have := dig_not hd (c := 43) (by decide)
      simpa using this
    have e9003 : Lib.atoi (b :: r) = some (n : Int) := by
      simp only [Lib.atoi, e1, e2, Bool.false_eq_true, if_false]
      unfold Lib.decNat
      rw [if_neg (by simp), hf]
      rfl
    rw [e9003]
    rfl
theorem join_joinC (c : UInt8) : ∀ (r : List Bs) (p : Bs), Lib.join (p :: r) [c] = joinC c p r
  | [], p => by simp [Lib.join, joinC]
  | q :: r, p => by
    have ih := join_joinC c r q
    have e : joinC c p (q :: r) = p ++ c :: joinC c q r := by simp [joinC]
    rw [e, ← ih]
    simp [Lib.join]
theorem prn_no {s : Bs} (h : prnB s = true) : (32 : UInt8) ∉ s := by
  intro hm
  simp only [prnB, Bool.and_eq_true, List.all_eq_true] at h
  have := h.1 32 hm
  simp at this
theorem name_no {s : Bs} (h : nameB s = true) {c : UInt8} (h1 : letB c = false) (h2 : digB c = false) : c ∉ s := by
  intro hm
  simp only [nameB, Bool.and_eq_true, List.all_eq_true] at h
  have := h.2 c hm
  rw [h1, h2] at this
  cases this
theorem ident_name {s : Bs} (h : identB s = true) : nameB s = true := by
  simp only [identB, Bool.and_eq_true] at h
  exact h.1
theorem name_len {s : Bs} (h : nameB s = true) : 1 ≤ s.length ∧ s.length ≤ 32 := by
  simp only [nameB, Bool.and_eq_true, decide_eq_true_eq, Bool.not_eq_true', beq_eq_false_iff_ne, ne_eq] at h
  obtain ⟨⟨⟨h1, h2⟩, -⟩, -⟩ := h
  refine ⟨?_, h2⟩
  cases s with
  | nil => exact absurd rfl h1
  | cons b s => simp
theorem perms_ok : ∀ {l seen : List Bs}, permsE seen l = 0 → ∀ s ∈ l, identB s = true
  | [], _, _, s, h => by simp at h
  | x :: l, seen, h, s, hs => by
    unfold permsE at h
    split at h
    · rename_i hx
      split at h
      · cases h
      · rcases List.mem_cons.1 hs with rfl | hs
        · exact hx
        · exact perms_ok h s hs
    · cases h
structure RecOk (r : RecV) : Prop where
  time : 0 ≤ r.time ∧ r.time ≤ 1125899906842624
  seq : 0 ≤ r.seq ∧ r.seq ≤ 1125899906842624
  count : 1 ≤ r.count ∧ r.count ≤ 2147483647
  src : prnB r.src = true
  tgt : prnB r.tgt = true
  cls : identB r.cls = true
  some : 1 ≤ r.perms.l.length
  few : r.perms.l.length ≤ 32
  perms : permsE [] r.perms.l = 0
theorem chk_ok {r : RecV} (h : chkV r = 0) : RecOk r := by
  unfold chkV at h
  split at h
  · rename_i h1
    split at h
    · rename_i h2
      split at h
      · rename_i h3
        split at h
        · cases h
        · rename_i h4
          split at h
          · cases h
          · rename_i h5
            simp only [rangeOk, Bool.and_eq_true, decide_eq_true_eq] at h1
            obtain ⟨⟨⟨⟨⟨a, b⟩, c⟩, d⟩, e⟩, f⟩ := h1
            simp only [Bool.and_eq_true] at h2
            exact ⟨⟨a, b⟩, ⟨c, d⟩, ⟨e, f⟩, h2.1, h2.2, h3, by omega, by omega, h⟩
      · cases h
    · cases h
  · cases h
theorem verb_no (g : Bool) : (32 : UInt8) ∉ verbB g := by cases g <;> decide
theorem words_no {r : RecV} (h : RecOk r) : ∀ w ∈ wordsB r, (32 : UInt8) ∉ w := by
  have hp := perms_ok h.perms
  have hcls := name_no (ident_name h.cls) (c := 32) (by decide) (by decide)
  have d1 := decB_no h.time.1 (c := 32) (by decide)
  have d2 := decB_no h.seq.1 (c := 32) (by decide)
  have d3 := decB_no (i := r.count) (by have := h.count.1; omega) (c := 32) (by decide)
  have s1 := prn_no h.src
  have s2 := prn_no h.tgt
  intro w hw
  simp only [wordsB, endsB, List.mem_cons, List.mem_append, List.not_mem_nil, or_false] at hw
  rcases hw with rfl | rfl | hw | rfl | hw | hw
  · exact verb_no _
  · decide
  · exact name_no (ident_name (hp w hw)) (by decide) (by decide)
  · decide
  · rcases hw with rfl | rfl | rfl | rfl | rfl | rfl | rfl | rfl | rfl | rfl | rfl | rfl <;> first | assumption | decide
  · cases hpe : r.pe <;> rw [hpe] at hw
    · simp at hw
    · simp only [if_true, List.mem_singleton] at hw
      rw [hw]; decide
theorem parts_text {r : RecV} (h : RecOk r) : parts 32 (textB r) = wordsB r := by
  have hw := words_no h
  unfold textB
  unfold wordsB at hw ⊢
  rw [join_joinC]
  exact parts_join (hw _ (by simp)) (fun q hq => hw q (List.mem_cons_of_mem _ hq))
theorem join_len (c : UInt8) (B : Nat) : ∀ (l : List Bs), (∀ w ∈ l, w.length ≤ B) → (Lib.join l [c]).length ≤ l.length * (B + 1)
  | [], _ => by simp [Lib.join]
  | [w], h => by
    have := h w (by simp)
    simp [Lib.join]
    omega
  | w :: v :: l, h => by
    have h1 := h w (by simp)
    have h2 := join_len c B (v :: l) (fun x hx => h x (by simp at hx ⊢; exact .inr hx))
    have e : Lib.join (w :: v :: l) [c] = w ++ c :: Lib.join (v :: l) [c] := by simp [Lib.join]
    rw [e, List.length_append, List.length_cons]
    simp only [List.length_cons] at h2 ⊢
    rw [Nat.add_mul] at h2 ⊢
    rw [Nat.add_mul, Nat.one_mul] at *
    omega
theorem text_len {r : RecV} (h : RecOk r) : (textB r).length ≤ 400000 ∧ (wordsB r).length ≤ 48 := by
  have hp := perms_ok h.perms
  have few := h.few
  have hl : (wordsB r).length ≤ 48 := by
    have e : (wordsB r).length = r.perms.l.length + 15 + (if r.pe then 1 else 0) := by
      cases hp : r.pe <;> simp [wordsB, endsB, hp] <;> omega
    rw [e]
    split <;> omega
  refine ⟨?_, hl⟩
  have := join_len 32 8192 (wordsB r) (fun w hw => by
    have l1 := decB_len h.time.1 h.time.2
    have l2 := decB_len h.seq.1 h.seq.2
    have l9003 := decB_len (i := r.count) (by have := h.count.1; omega) (by have := h.count.2; omega)
    have hs := h.src
    have ht := h.tgt
    simp only [prnB, Bool.and_eq_true, decide_eq_true_eq] at hs ht
    have hc := name_len (ident_name h.cls)
    simp only [wordsB, endsB, List.mem_cons, List.mem_append, List.not_mem_nil, or_false] at hw
    rcases hw with rfl | rfl | hw | rfl | hw | hw
    · cases r.gr <;> decide
    · decide
    · have := name_len (ident_name (hp w hw)); omega
    · decide
    · rcases hw with rfl | rfl | rfl | rfl | rfl | rfl | rfl | rfl | rfl | rfl | rfl | rfl <;> first | omega | (simp; done) | decide
    · cases hpe : r.pe <;> rw [hpe] at hw
      · simp at hw
      · simp only [if_true, List.mem_singleton] at hw
        rw [hw]; decide)
  unfold textB
  have h2 : (wordsB r).length * (8192 + 1) ≤ 48 * 8193 := Nat.mul_le_mul_right _ hl
  omega
end Go.Proofs.YtagkgekpfgepoaaDoor
namespace Go.Proofs.YtagkgekpfgepoaaDoor
set_option linter.unusedVariables false
set_option linter.unusedSimpArgs false
set_option maxRecDepth 20000
set_option maxHeartbeats 4000000
open Go
theorem e54 {n : Nat} (hn : 1 ≤ n) (b : UInt8) : cpJ PR n 54 [.int .i32 b.toNat] = some (.bool (digB b)) := by
  obtain ⟨n, rfl⟩ : ∃ m, n = m + 1 := ⟨n - 1, by omega⟩
  rw [u54]
  simp +contextual -implicitDefEqProofs [D54]
  rw [Bool.eq_iff_iff]
  simp [digB]
  omega
theorem e55 {n : Nat} (hn : 1 ≤ n) (b : UInt8) : cpJ PR n 55 [.int .i32 b.toNat] = some (.bool (letB b)) := by
  obtain ⟨n, rfl⟩ : ∃ m, n = m + 1 := ⟨n - 1, by omega⟩
  rw [u55]
  simp +contextual -implicitDefEqProofs [D55]
  rw [Bool.eq_iff_iff]
  simp [letB]
  omega
theorem wrap32 (b : UInt8) : IntKind.i32.wrap (b.toNat : Int) = b.toNat := by
  have := b.toNat_lt
  have h0 : (IntKind.i32.bits : Nat) = 32 := rfl
  unfold IntKind.wrap
  rw [h0]
  rw [Int.emod_eq_of_lt (by omega) (by omega)]
  rw [if_neg]
  simp
  omega
theorem get_some2 {α : Type} {l : List α} {i : Nat} (h : i < l.length) : ∃ x, l[i]? = some x ∧ l[i] = x := ⟨l[i], List.getElem?_eq_getElem h, rfl⟩
theorem l43 {n : Nat} (hn : 1 ≤ n) (s : Bs) (hs : s.length < 1000000000) (q : Bool) (σ : Sto) : ∀ (k i m : Nat), s.length ≤ i + k → k < m →
    iterJ 0 (L43_0 (cpJ PR n) (ciJ PR n) n (.str s) (.int .i64 s.length)) m [.int .i64 i, .bool q] σ = some (.done (.bool ((s.drop i).all fun b => letB b || digB b)) σ) := by
  intro k
  have stop : ∀ i m, s.length ≤ i → 0 < m → iterJ 0 (L43_0 (cpJ PR n) (ciJ PR n) n (.str s) (.int .i64 s.length)) m [.int .i64 i, .bool q] σ = some (.done (.bool ((s.drop i).all fun b => letB b || digB b)) σ) := by
    intro i m hi hm
    obtain ⟨m, rfl⟩ : ∃ q, m = q + 1 := ⟨m - 1, by omega⟩
    have hi' : ¬ (i < s.length) := by omega
    refine iterJ_done ?_
    rw [List.drop_eq_nil_of_le hi]
    simp -implicitDefEqProofs [L43_0, B43_0, hi']
  induction k with
  | zero =>
    intro i m hi hm
    exact stop i m (by omega) (by omega)
  | succ k ih =>
    intro i m hi hm
    by_cases hlt : i < s.length
    · obtain ⟨m, rfl⟩ : ∃ q, m = q + 1 := ⟨m - 1, by omega⟩
      obtain ⟨x, hx, hg⟩ := get_some2 hlt
      have hw : IntKind.i64.wrap ((i : Int) + 1) = ((i + 1 : Nat) : Int) := wrap_succ (by omega)
      have h1 := e55 (n := n) hn x
      have h2 := e54 (n := n) hn x
      rw [drop_get hx]
      cases hb : (letB x || digB x) with
      | true =>
        rw [iterJ_next' (vs' := [.int .i64 ((i + 1 : Nat) : Int), .bool q]) (σ' := σ), ih (i + 1) m (by omega) (by omega)]
        · simp [hb]
        · cases hl : letB x <;> cases hd : digB x <;> rw [hl] at h1 hb <;> rw [hd] at h2 hb <;> first | (exact absurd hb (by decide)) | simp -implicitDefEqProofs [L43_0, B43_0, hlt, hg, wrap32, h1, h2, hw]
      | false =>
        refine iterJ_done ?_
        simp only [Bool.or_eq_false_iff] at hb
        rw [hb.1] at h1
        rw [hb.2] at h2
        simp -implicitDefEqProofs [L43_0, B43_0, hlt, hg, wrap32, h1, h2, hw, hb]
    · exact stop i m (by omega) (by omega)
theorem e43 {n : Nat} (hn : 40 ≤ n) (s : Bs) (hs : s.length < 1000000000) : cpJ PR n 43 [.str s] = some (.bool (nameB s)) := by
  obtain ⟨n, rfl⟩ : ∃ m, n = m + 1 := ⟨n - 1, by omega⟩
  rw [u43]
  cases s with
  | nil => simp -implicitDefEqProofs [D43, nameB]
  | cons b s =>
    have h1 := e54 (n := n) (by omega) b
    by_cases hl : (b :: s).length ≤ 32
    · have hl' : s.length + 1 ≤ 32 := hl
      have hlI : ¬ ((32 : Int) < (s.length : Int) + 1) := by omega
      cases hd : digB b with
      | true =>
        rw [hd] at h1
        simp -implicitDefEqProofs [D43, nameB, headDig, hl', hlI, wrap32, h1, hd]
      | false =>
        rw [hd] at h1
        have hL := l43 (n := n) (by omega) (b :: s) hs false emptySto ((b :: s).length) 0 n (by omega) (by omega)
        rw [List.length_cons] at hL
        simp only [Int.natCast_zero, List.drop_zero, Int.natCast_succ] at hL
        simp -implicitDefEqProofs [D43, nameB, headDig, hl', hlI, wrap32, h1, hd, hL]
    · have hl' : ¬ (s.length + 1 ≤ 32) := hl
      have hlI : (32 : Int) < (s.length : Int) + 1 := by omega
      simp -implicitDefEqProofs [D43, nameB, headDig, hl', hlI]
end Go.Proofs.YtagkgekpfgepoaaDoor
namespace Go.Proofs.YtagkgekpfgepoaaDoor
set_option linter.unusedVariables false
set_option linter.unusedSimpArgs false
set_option maxRecDepth 20000
set_option maxHeartbeats 4000000
open Go
theorem e44 {n : Nat} (hn : 1 ≤ n) (s : Bs) : cpJ PR n 44 [.str s] = some (.bool (kwL.contains s)) := by
  obtain ⟨n, rfl⟩ : ∃ m, n = m + 1 := ⟨n - 1, by omega⟩
  rw [u44]
  by_cases h : s ∈ kwL
  · rw [List.contains_iff_mem.2 h]
    simp only [kwL, List.mem_cons, List.not_mem_nil, or_false] at h
    rcases h with rfl | h
    · rfl
    repeat (rcases h with rfl | h; · rfl)
  · have hc : kwL.contains s = false := by
      cases hh : kwL.contains s with
      | false => rfl
      | true => exact absurd (List.contains_iff_mem.1 hh) h
    rw [hc]
    simp only [kwL, List.mem_cons, List.not_mem_nil, or_false, not_or] at h
    simp -implicitDefEqProofs [D44, L44_0, J44_0, L44_1, J44_1, L44_2, J44_2, h]
theorem e30 {n : Nat} (hn : 50 ≤ n) (s : Bs) (hs : s.length < 1000000000) : cpJ PR n 30 [.str s] = some (.bool (identB s)) := by
  obtain ⟨n, rfl⟩ : ∃ m, n = m + 1 := ⟨n - 1, by omega⟩
  rw [u30]
  have h1 := e43 (n := n) (by omega) s hs
  have h2 := e44 (n := n) (by omega) s
  cases hb : nameB s <;> rw [hb] at h1 <;> simp -implicitDefEqProofs [D30, identB, hb, h1, h2]
end Go.Proofs.YtagkgekpfgepoaaDoor
namespace Go.Proofs.YtagkgekpfgepoaaDoor
set_option linter.unusedVariables false
set_option linter.unusedSimpArgs false
set_option maxRecDepth 20000
set_option maxHeartbeats 4000000
open Go
def prnb (b : UInt8) : Bool := decide (33 ≤ b.toNat) && decide (b.toNat ≤ 126)
section
variable {n : Nat} (s : Bs) (hs : s.length < 1000000000) (q : Bool) (σ : Sto)
include hs
theorem l29 : ∀ (k i m : Nat), s.length ≤ i + k → k < m →
    iterJ 0 (L29_0 (cpJ PR n) (ciJ PR n) n (.str s) (.int .i64 s.length)) m [.int .i64 i, .bool q] σ = some (.done (.bool ((s.drop i).all prnb && (decide (1 ≤ s.length) && decide (s.length ≤ 8192)))) σ) := by
  intro k
  have stop : ∀ i m, s.length ≤ i → 0 < m → iterJ 0 (L29_0 (cpJ PR n) (ciJ PR n) n (.str s) (.int .i64 s.length)) m [.int .i64 i, .bool q] σ = some (.done (.bool ((s.drop i).all prnb && (decide (1 ≤ s.length) && decide (s.length ≤ 8192)))) σ) := by
    intro i m hi hm
    obtain ⟨m, rfl⟩ : ∃ q, m = q + 1 := ⟨m - 1, by omega⟩
    have hi' : ¬ (i < s.length) := by omega
    refine iterJ_done ?_
    rw [List.drop_eq_nil_of_le hi]
    have e1 : ((1 : Int) ≤ (s.length : Int)) ↔ 1 ≤ s.length := by omega
    have e2 : ((s.length : Int) ≤ 8192) ↔ s.length ≤ 8192 := by omega
    simp +contextual -implicitDefEqProofs [L29_0, B29_0, hi', e1, e2]
  induction k with
  | zero =>
    intro i m hi hm
    exact stop i m (by omega) (by omega)
  | succ k ih =>
    intro i m hi hm
    by_cases hlt : i < s.length
    · obtain ⟨m, rfl⟩ : ∃ q, m = q + 1 := ⟨m - 1, by omega⟩
      obtain ⟨x, hx, hg⟩ := get_some2 hlt
      have hw : IntKind.i64.wrap ((i : Int) + 1) = ((i + 1 : Nat) : Int) := wrap_succ (by omega)
      rw [drop_get hx]
      by_cases h1 : x.toNat < 33
      · refine iterJ_done ?_
        have h1' : ((x.toNat : Int) < 33) := by omega
        have hb : prnb x = false := by simp [prnb]; omega
        simp -implicitDefEqProofs [L29_0, B29_0, hlt, hg, h1, h1', hb]
      · have h1' : ¬ ((x.toNat : Int) < 33) := by omega
        by_cases h2 : 126 < x.toNat
        · refine iterJ_done ?_
          have h2' : ((126 : Int) < x.toNat) := by omega
          have hb : prnb x = false := by simp [prnb]; omega
          simp -implicitDefEqProofs [L29_0, B29_0, hlt, hg, h1, h1', h2, h2', hb]
        · have h2' : ¬ ((126 : Int) < x.toNat) := by omega
          have hb : prnb x = true := by simp [prnb]; omega
          rw [iterJ_next' (vs' := [.int .i64 ((i + 1 : Nat) : Int), .bool q]) (σ' := σ), ih (i + 1) m (by omega) (by omega)]
          · simp [hb]
          · simp -implicitDefEqProofs [L29_0, B29_0, hlt, hg, h1, h1', h2, h2', hw]
    · exact stop i m (by omega) (by omega)
end
theorem prn_eq (s : Bs) : prnB s = (s.all prnb && (decide (1 ≤ s.length) && decide (s.length ≤ 8192))) := rfl
theorem e29 {n : Nat} (s : Bs) (hs : s.length < 1000000000) (hn : s.length + 2 ≤ n) : cpJ PR n 29 [.str s] = some (.bool (prnB s)) := by
  obtain ⟨n, rfl⟩ : ∃ m, n = m + 1 := ⟨n - 1, by omega⟩
  rw [u29]
  have := l29 (n := n) s hs false emptySto s.length 0 n (by omega) (by omega)
  simp only [Int.natCast_zero, List.drop_zero, ← prn_eq] at this
  simp -implicitDefEqProofs [D29, this]
structure SmallR (r : RecV) : Prop where
  src : r.src.length ≤ 300
  tgt : r.tgt.length ≤ 300
  cls : r.cls.length ≤ 300
  few : r.perms.l.length ≤ 40
  perms : ∀ s ∈ r.perms.l, s.length ≤ 300
def smallV (r : RecV) : Bool := decide (r.src.length ≤ 300) && decide (r.tgt.length ≤ 300) && decide (r.cls.length ≤ 300) && decide (r.perms.l.length ≤ 40) && r.perms.l.all fun s => decide (s.length ≤ 300)
theorem small_of {r : RecV} (h : smallV r = true) : SmallR r := by
  simp only [smallV, Bool.and_eq_true, decide_eq_true_eq, List.all_eq_true] at h
  exact ⟨h.1.1.1.1, h.1.1.1.2, h.1.1.2, h.1.2, h.2⟩
end Go.Proofs.YtagkgekpfgepoaaDoor
namespace Go.Proofs.YtagkgekpfgepoaaDoor
set_option linter.unusedVariables false
set_option linter.unusedSimpArgs false
set_option maxRecDepth 20000
set_option maxHeartbeats 4000000
open Go
def idxAt (s : List UInt8) : List (List UInt8) → Nat → Int
  | [], _ => -1
  | x :: xs, i => if x = s then i else idxAt s xs (i + 1)
theorem l45 {n : Nat} (z : Zs) (l : List (List UInt8)) (hl : l.length < 1000000) (s : List UInt8) (σ : Sto) : ∀ (k i m : Nat) (b : DVal), i + k = l.length → k < m →
    iterJ 0 (L45_0 (cpJ PR n) (ciJ PR n) n (strsD z l) (.str s) (.int .i64 l.length)) m [.int .i64 i, b] σ = some (.done (.int .i64 (idxAt s (l.drop i) i)) σ) := by
  intro k
  induction k with
  | zero =>
    intro i m b hi hm
    obtain ⟨m, rfl⟩ : ∃ q, m = q + 1 := ⟨m - 1, by omega⟩
    have hi' : ¬ ((i : Int) < l.length) := by omega
    refine iterJ_done ?_
    rw [List.drop_eq_nil_of_le (by omega)]
    simp -implicitDefEqProofs [L45_0, B45_0, hi', idxAt]
  | succ k ih =>
    intro i m b hi hm
    obtain ⟨m, rfl⟩ : ∃ q, m = q + 1 := ⟨m - 1, by omega⟩
    have hi' : ((i : Int) < l.length) := by omega
    obtain ⟨x, hx⟩ := get_some (by omega : i < l.length)
    rw [drop_get hx, idxAt]
    by_cases hxs : x = s
    · refine iterJ_done ?_
      subst hxs
      simp -implicitDefEqProofs [L45_0, B45_0, hi', hx]
    · have hxs' : ¬ s = x := fun h => hxs h.symm
      rw [iterJ_next' (vs' := [.int .i64 ((i + 1 : Nat) : Int), b]) (σ' := σ) (by simp -implicitDefEqProofs [L45_0, B45_0, hi', hx, hxs']; exact wrap_succ (by omega)), ih (i + 1) m b (by omega) (by omega)]
      simp [hxs]
theorem e45 {n : Nat} (z : Zs) (l : List (List UInt8)) (s : List UInt8) (hl : l.length < 1000000) (hn : l.length + 5 ≤ n) : cpJ PR n 45 [strsD z l, .str s] = some (.int .i64 (idxAt s l 0)) := by
  obtain ⟨n, rfl⟩ : ∃ m, n = m + 1 := ⟨n - 1, by omega⟩
  have := l45 (n := n) z l hl s emptySto l.length 0 n (.int .i64 0) (by omega) (by omega)
  rw [u45]
  simp only [Int.natCast_zero, List.drop_zero] at this
  simp -implicitDefEqProofs [D45, this]
theorem idxAt_ge (s : List UInt8) : ∀ (l : List (List UInt8)) (i : Nat), (0 ≤ idxAt s l i ↔ s ∈ l)
  | [], i => by simp [idxAt]
  | x :: xs, i => by
    unfold idxAt
    by_cases h : x = s
    · simp [h]
    · have h' : ¬ s = x := fun e => h e.symm
      simp only [h, if_false, List.mem_cons, h', false_or]
      exact idxAt_ge s xs (i + 1)
theorem e31 {n : Nat} (z : Zs) (l : List (List UInt8)) (s : List UInt8) (hl : l.length < 1000000) (hn : l.length + 6 ≤ n) : cpJ PR n 31 [strsD z l, .str s] = some (.bool (decide (s ∈ l))) := by
  obtain ⟨n, rfl⟩ : ∃ m, n = m + 1 := ⟨n - 1, by omega⟩
  rw [u31]
  simp -implicitDefEqProofs [D31, e45 (n := n) z l s hl (by omega)]
  exact idxAt_ge s l 0
theorem take_strs (p : Sl Bs) (i : Nat) (h : i ≤ p.l.length) : ∃ z, slcVSem 1 false true false [strs p, .int .i64 i] = some (strsD z (p.l.take i)) := by
  refine ⟨p.z.part (p.l.map fun x => [DVal.str x]), ?_⟩
  have h' : (i : Int) ≤ p.l.length := by omega
  have hi : (0 : Int) ≤ (i : Int) := by omega
  simp only [strs, take_slD, List.length_map]
  rw [if_pos ⟨hi, h'⟩, Int.toNat_natCast, ← List.map_take]
theorem l22 {n : Nat} (r : RecV) (hl : r.perms.l.length ≤ 40) (q : Bool) (σ : Sto) : ∀ (k i m : Nat), r.perms.l.length = i + k → k < m →
    iterJ 0 (L22_0 (cpJ PR n) (ciJ PR n) n r.d) m [.int .i64 i, .bool q] σ = some (.done (.bool ((r.perms.l.drop i).all fun s => decide (s.length ≤ 300))) σ) := by
  intro k
  induction k with
  | zero =>
    intro i m hi hm
    obtain ⟨m, rfl⟩ : ∃ q, m = q + 1 := ⟨m - 1, by omega⟩
    have hi' : ¬ (i < r.perms.l.length) := by omega
    refine iterJ_done ?_
    rw [List.drop_eq_nil_of_le (by omega)]
    simp -implicitDefEqProofs [L22_0, B22_0, hi']
  | succ k ih =>
    intro i m hi hm
    obtain ⟨m, rfl⟩ : ∃ q, m = q + 1 := ⟨m - 1, by omega⟩
    have hlt : i < r.perms.l.length := by omega
    obtain ⟨x, hx, hg⟩ := get_some2 hlt
    have hw : IntKind.i64.wrap ((i : Int) + 1) = ((i + 1 : Nat) : Int) := wrap_succ (by omega)
    rw [drop_get hx]
    by_cases h : x.length ≤ 300
    · have h' : ¬ ((300 : Int) < x.length) := by omega
      rw [iterJ_next' (vs' := [.int .i64 ((i + 1 : Nat) : Int), .bool q]) (σ' := σ), ih (i + 1) m (by omega) (by omega)]
      · simp [h]
      · simp -implicitDefEqProofs [L22_0, B22_0, hlt, hg, h', hw]
    · have h' : ((300 : Int) < x.length) := by omega
      refine iterJ_done ?_
      simp -implicitDefEqProofs [L22_0, B22_0, hlt, hg, h', h]
theorem e22 {n : Nat} (hn : 50 ≤ n) (r : RecV) : cpJ PR n 22 [r.d] = some (.bool (smallV r)) := by
  obtain ⟨n, rfl⟩ : ∃ m, n = m + 1 := ⟨n - 1, by omega⟩
  rw [u22]
  by_cases h1 : r.src.length ≤ 300
  · have g1 : ¬ ((300 : Int) < r.src.length) := by omega
    by_cases h2 : r.tgt.length ≤ 300
    · have g2 : ¬ ((300 : Int) < r.tgt.length) := by omega
      by_cases h3 : r.cls.length ≤ 300
      · have g3 : ¬ ((300 : Int) < r.cls.length) := by omega
        by_cases h4 : r.perms.l.length ≤ 40
        · have g4 : ¬ ((40 : Int) < r.perms.l.length) := by omega
          have hL := l22 (n := n) r h4 false emptySto r.perms.l.length 0 n (by omega) (by omega)
          simp only [Int.natCast_zero, List.drop_zero] at hL
          simp -implicitDefEqProofs [D22, smallV, g1, g2, g3, g4, h1, h2, h3, h4, hL]
        · have g4 : ((40 : Int) < r.perms.l.length) := by omega
          simp -implicitDefEqProofs [D22, smallV, g1, g2, g3, g4, h1, h2, h3, h4]
      · have g3 : ((300 : Int) < r.cls.length) := by omega
        simp -implicitDefEqProofs [D22, smallV, g1, g2, g3, h1, h2, h3]
    · have g2 : ((300 : Int) < r.tgt.length) := by omega
      simp -implicitDefEqProofs [D22, smallV, g1, g2, h1, h2]
  · have g1 : ((300 : Int) < r.src.length) := by omega
    simp -implicitDefEqProofs [D22, smallV, g1, h1]
end Go.Proofs.YtagkgekpfgepoaaDoor
namespace Go.Proofs.YtagkgekpfgepoaaDoor
set_option linter.unusedVariables false
set_option linter.unusedSimpArgs false
set_option maxRecDepth 20000
set_option maxHeartbeats 4000000
open Go
structure Fit (r : RecV) : Prop where
  src : r.src.length < 1000000000
  tgt : r.tgt.length < 1000000000
  cls : r.cls.length < 1000000000
  perms : ∀ s ∈ r.perms.l, s.length < 1000000000
  small : r.perms.l.length < 1000000
def stepsR (r : RecV) : Nat := r.src.length + r.tgt.length + r.cls.length + (r.perms.l.map List.length).sum + r.perms.l.length
theorem take_mem {l : List Bs} {i : Nat} {x : Bs} (h : l[i]? = some x) : x ∈ l := List.mem_of_getElem? h
theorem l14 {n : Nat} (r : RecV) (hf : Fit r) (hn : stepsR r + 100 ≤ n) (q : Int) (σ : Sto) : ∀ (k i m : Nat), r.perms.l.length = i + k → k < m →
    iterJ 0 (L14_0 (cpJ PR n) (ciJ PR n) n r.d (strs r.perms) (.int .i64 r.perms.l.length)) m [.int .i64 i, .int .i64 q] σ = some (.done (.int .i64 (permsE (r.perms.l.take i) (r.perms.l.drop i))) σ) := by
  intro k
  induction k with
  | zero =>
    intro i m hi hm
    obtain ⟨m, rfl⟩ : ∃ q, m = q + 1 := ⟨m - 1, by omega⟩
    have hi' : ¬ (i < r.perms.l.length) := by omega
    refine iterJ_done ?_
    rw [List.drop_eq_nil_of_le (by omega)]
    simp -implicitDefEqProofs [L14_0, B14_0, hi', permsE]
  | succ k ih =>
    intro i m hi hm
    obtain ⟨m, rfl⟩ : ∃ q, m = q + 1 := ⟨m - 1, by omega⟩
    have hlt : i < r.perms.l.length := by omega
    obtain ⟨x, hx, hg⟩ := get_some2 hlt
    have hmem := take_mem hx
    have hsm := hf.small
    have hw : IntKind.i64.wrap ((i : Int) + 1) = ((i + 1 : Nat) : Int) := wrap_succ (by omega)
    have h1 := e30 (n := n) (by omega) x (hf.perms x hmem)
    obtain ⟨z, hz⟩ := take_strs r.perms i (by omega)
    have h2 := e31 (n := n) z (r.perms.l.take i) x (by simp; omega) (by simp [stepsR] at hn ⊢; omega)
    rw [drop_get hx, permsE]
    have htk := take_get hx
    generalize r.perms.l.take i = L at hz h2 htk ⊢
    cases hid : identB x with
    | false =>
      rw [hid] at h1
      refine iterJ_done ?_
      simp -implicitDefEqProofs [L14_0, B14_0, hlt, hg, h1]
    | true =>
      rw [hid] at h1
      by_cases hc : x ∈ L
      · rw [decide_eq_true hc] at h2
        refine iterJ_done ?_
        have hc2 : L.contains x = true := List.contains_iff_mem.2 hc
        rw [hc2]
        simp -implicitDefEqProofs [L14_0, B14_0, hlt, hg, h1, hz, h2, -slcVSem.eq_1, -slcVSem.eq_2, -slcVSem.eq_3]
      · rw [decide_eq_false hc] at h2
        have hc2 : L.contains x = false := by
          cases hh : L.contains x with
          | false => rfl
          | true => exact absurd (List.contains_iff_mem.1 hh) hc
        rw [iterJ_next' (vs' := [.int .i64 ((i + 1 : Nat) : Int), .int .i64 q]) (σ' := σ), ih (i + 1) m (by omega) (by omega)]
        · rw [htk, hc2]
          simp
        · simp -implicitDefEqProofs [L14_0, B14_0, hlt, hg, h1, hz, h2, hw, -slcVSem.eq_1, -slcVSem.eq_2, -slcVSem.eq_3]
theorem e14 {n : Nat} (r : RecV) (hf : Fit r) (hn : stepsR r + 200 ≤ n) : cpJ PR n 14 [r.d] = some (.int .i64 (chkV r)) := by
  obtain ⟨n, rfl⟩ : ∃ m, n = m + 1 := ⟨n - 1, by omega⟩
  rw [u14]
  have hst : stepsR r = r.src.length + r.tgt.length + r.cls.length + (r.perms.l.map List.length).sum + r.perms.l.length := rfl
  have h1 := e29 (n := n) r.src hf.src (by omega)
  have h2 := e29 (n := n) r.tgt hf.tgt (by omega)
  have h3 := e30 (n := n) (by omega) r.cls hf.cls
  have hL := l14 (n := n) r hf (by omega) 0 emptySto r.perms.l.length 0 n (by omega) (by omega)
  simp only [Int.natCast_zero, List.drop_zero, List.take_zero] at hL
  unfold chkV
  have hro : rangeOk r = (decide (0 ≤ r.time) && decide (r.time ≤ 1125899906842624) && decide (0 ≤ r.seq) && decide (r.seq ≤ 1125899906842624) && decide (1 ≤ r.count) && decide (r.count ≤ 2147483647)) := rfl
  by_cases hr : 0 ≤ r.time ∧ r.time ≤ 1125899906842624 ∧ 0 ≤ r.seq ∧ r.seq ≤ 1125899906842624 ∧ 1 ≤ r.count ∧ r.count ≤ 2147483647
  · obtain ⟨a1, a2, a3, a4, a5, a6⟩ := hr
    have hr1 : rangeOk r = true := by rw [hro]; simp [a1, a2, a3, a4, a5, a6]
    have b1 : ¬ (r.time < 0) := by omega
    have b2 : ¬ (1125899906842624 < r.time) := by omega
    have b3 : ¬ (r.seq < 0) := by omega
    have b4 : ¬ (1125899906842624 < r.seq) := by omega
    have b5 : ¬ (r.count < 1) := by omega
    have b6 : ¬ (2147483647 < r.count) := by omega
    rw [hr1]
    cases c1 : prnB r.src with
    | false =>
      rw [c1] at h1
      simp -implicitDefEqProofs [D14, b1, b2, b3, b4, b5, b6, h1]
    | true =>
      rw [c1] at h1
      cases c2 : prnB r.tgt with
      | false =>
        rw [c2] at h2
        simp -implicitDefEqProofs [D14, b1, b2, b3, b4, b5, b6, h1, h2]
      | true =>
        rw [c2] at h2
        cases c3 : identB r.cls with
        | false =>
          rw [c3] at h3
          simp -implicitDefEqProofs [D14, b1, b2, b3, b4, b5, b6, h1, h2, h3]
        | true =>
          rw [c3] at h3
          by_cases c4 : r.perms.l.length = 0
          · have c4' : ((r.perms.l.length : Int) = 0) := by omega
            simp -implicitDefEqProofs [D14, b1, b2, b3, b4, b5, b6, h1, h2, h3, c4, c4']
          · have c4' : ¬ ((r.perms.l.length : Int) = 0) := by omega
            have c4b : ((r.perms.l.length : Int) == 0) = false := by simpa using c4
            have c4n : ¬ (r.perms.l = []) := fun h => c4 (by rw [h]; rfl)
            by_cases c5 : 32 < r.perms.l.length
            · have c5' : ((32 : Int) < r.perms.l.length) := by omega
              simp -implicitDefEqProofs [D14, b1, b2, b3, b4, b5, b6, h1, h2, h3, c4, c4', c4b, c4n, c5, c5']
            · have c5' : ¬ ((32 : Int) < r.perms.l.length) := by omega
              simp -implicitDefEqProofs [D14, b1, b2, b3, b4, b5, b6, h1, h2, h3, c4, c4', c4b, c4n, c5, c5', hL]
  · have hr1 : rangeOk r = false := by
      rw [hro]
      cases h : (decide (0 ≤ r.time) && decide (r.time ≤ 1125899906842624) && decide (0 ≤ r.seq) && decide (r.seq ≤ 1125899906842624) && decide (1 ≤ r.count) && decide (r.count ≤ 2147483647)) with
      | false => rfl
      | true =>
        simp only [Bool.and_eq_true, decide_eq_true_eq] at h
        exact absurd ⟨h.1.1.1.1.1, h.1.1.1.1.2, h.1.1.1.2, h.1.1.2, h.1.2, h.2⟩ hr
    rw [hr1]
    simp only [not_and, Int.not_le] at hr
    by_cases a1 : r.time < 0
    · simp -implicitDefEqProofs [D14, a1]
    by_cases a2 : 1125899906842624 < r.time
    · simp -implicitDefEqProofs [D14, a1, a2]
    by_cases a3 : r.seq < 0
    · simp -implicitDefEqProofs [D14, a1, a2, a3]
    by_cases a4 : 1125899906842624 < r.seq
    · simp -implicitDefEqProofs [D14, a1, a2, a3, a4]
    by_cases a5 : r.count < 1
    · simp -implicitDefEqProofs [D14, a1, a2, a3, a4, a5]
    have a6 : 2147483647 < r.count := hr (by omega) (by omega) (by omega) (by omega) (by omega)
    simp -implicitDefEqProofs [D14, a1, a2, a3, a4, a5, a6]
end Go.Proofs.YtagkgekpfgepoaaDoor
namespace Go.Proofs.YtagkgekpfgepoaaDoor
set_option linter.unusedVariables false
set_option linter.unusedSimpArgs false
set_option maxRecDepth 20000
set_option maxHeartbeats 4000000
open Go
theorem l37 {n : Nat} (a b : Sl Bs) (hl : a.l.length = b.l.length) (hs : a.l.length < 1000000) (q : Bool) (σ : Sto) : ∀ (k i m : Nat), a.l.length = i + k → k < m →
    iterJ 0 (L37_0 (cpJ PR n) (ciJ PR n) n (strs a) (strs b) (.int .i64 a.l.length)) m [.int .i64 i, .bool q] σ = some (.done (.bool (a.l.drop i == b.l.drop i)) σ) := by
  intro k
  induction k with
  | zero =>
    intro i m hi hm
    obtain ⟨m, rfl⟩ : ∃ q, m = q + 1 := ⟨m - 1, by omega⟩
    have hi' : ¬ (i < a.l.length) := by omega
    refine iterJ_done ?_
    rw [List.drop_eq_nil_of_le (by omega), List.drop_eq_nil_of_le (by omega)]
    simp -implicitDefEqProofs [L37_0, B37_0, hi']
  | succ k ih =>
    intro i m hi hm
    obtain ⟨m, rfl⟩ : ∃ q, m = q + 1 := ⟨m - 1, by omega⟩
    have hlt : i < a.l.length := by omega
    have hlt2 : i < b.l.length := by omega
    obtain ⟨x, hx, hg⟩ := get_some2 hlt
    obtain ⟨y, hy, hgy⟩ := get_some2 hlt2
    have hw : IntKind.i64.wrap ((i : Int) + 1) = ((i + 1 : Nat) : Int) := wrap_succ (by omega)
    rw [drop_get hx, drop_get hy]
    by_cases h : x = y
    · rw [iterJ_next' (vs' := [.int .i64 ((i + 1 : Nat) : Int), .bool q]) (σ' := σ), ih (i + 1) m (by omega) (by omega)]
      · simp [h]
      · simp -implicitDefEqProofs [L37_0, B37_0, hlt, hlt2, hg, hgy, h, hw]
    · have h' : (x == y) = false := by simpa using h
      refine iterJ_done ?_
      simp -implicitDefEqProofs [L37_0, B37_0, hlt, hlt2, hg, hgy, h, h', hw]
theorem e37 {n : Nat} (a b : Sl Bs) (hs : a.l.length < 1000000) (hn : a.l.length + 2 ≤ n) : cpJ PR n 37 [strs a, strs b] = some (.bool (a.l == b.l)) := by
  obtain ⟨n, rfl⟩ : ∃ m, n = m + 1 := ⟨n - 1, by omega⟩
  rw [u37]
  by_cases hl : a.l.length = b.l.length
  · have := l37 (n := n) a b hl hs false emptySto a.l.length 0 n (by omega) (by omega)
    simp only [Int.natCast_zero, List.drop_zero] at this
    have hlb : ((a.l.length : Int) == (b.l.length : Int)) = true := by rw [beq_iff_eq]; omega
    simp -implicitDefEqProofs [D37, hl, hlb] at this ⊢
    simp -implicitDefEqProofs [this]
  · have hli : ¬ ((a.l.length : Int) = (b.l.length : Int)) := by omega
    have hlb : ((a.l.length : Int) == (b.l.length : Int)) = false := beq_eq_false_iff_ne.2 (by omega)
    have hne : (a.l == b.l) = false := by
      have : ¬ (a.l = b.l) := fun h => hl (by rw [h])
      simpa using this
    rw [hne]
    simp -implicitDefEqProofs [D37, hl, hli, hlb]
theorem e18 {n : Nat} (a b : RecV) (hs : a.perms.l.length < 1000000) (hn : a.perms.l.length + 4 ≤ n) : cpJ PR n 18 [a.d, b.d] = some (.bool (sameV a b)) := by
  obtain ⟨n, rfl⟩ : ∃ m, n = m + 1 := ⟨n - 1, by omega⟩
  rw [u18]
  have h := e37 (n := n) a.perms b.perms hs (by omega)
  unfold sameV
  cases c1 : (a.gr == b.gr) with
  | false => simp -implicitDefEqProofs [D18, c1]
  | true =>
  cases c2 : (a.pe == b.pe) with
  | false => simp -implicitDefEqProofs [D18, c1, c2]
  | true =>
  cases c3 : (a.src == b.src) with
  | false => simp -implicitDefEqProofs [D18, c1, c2, c3]
  | true =>
  cases c4 : (a.tgt == b.tgt) with
  | false => simp -implicitDefEqProofs [D18, c1, c2, c3, c4]
  | true =>
  cases c5 : (a.cls == b.cls) with
  | false => simp -implicitDefEqProofs [D18, c1, c2, c3, c4, c5]
  | true => simp -implicitDefEqProofs [D18, c1, c2, c3, c4, c5, h]
theorem l36 {n : Nat} (a b : RecV) (hl : a.perms.l.length = b.perms.l.length) (hs : a.perms.l.length < 1000000) (q : Bool) (σ : Sto) : ∀ (k i m : Nat), a.perms.l.length = i + k → k < m →
    iterJ 0 (L36_0 (cpJ PR n) (ciJ PR n) n a.d b.d) m [.int .i64 i, .bool q] σ = some (.done (.bool (a.perms.l.drop i == b.perms.l.drop i)) σ) := by
  intro k
  induction k with
  | zero =>
    intro i m hi hm
    obtain ⟨m, rfl⟩ : ∃ q, m = q + 1 := ⟨m - 1, by omega⟩
    have hi' : ¬ (i < a.perms.l.length) := by omega
    refine iterJ_done ?_
    rw [List.drop_eq_nil_of_le (by omega), List.drop_eq_nil_of_le (by omega)]
    simp -implicitDefEqProofs [L36_0, B36_0, hi']
  | succ k ih =>
    intro i m hi hm
    obtain ⟨m, rfl⟩ : ∃ q, m = q + 1 := ⟨m - 1, by omega⟩
    have hlt : i < a.perms.l.length := by omega
    have hlt2 : i < b.perms.l.length := by omega
    obtain ⟨x, hx, hg⟩ := get_some2 hlt
    obtain ⟨y, hy, hgy⟩ := get_some2 hlt2
    have hw : IntKind.i64.wrap ((i : Int) + 1) = ((i + 1 : Nat) : Int) := wrap_succ (by omega)
    rw [drop_get hx, drop_get hy]
    by_cases h : x = y
    · rw [iterJ_next' (vs' := [.int .i64 ((i + 1 : Nat) : Int), .bool q]) (σ' := σ), ih (i + 1) m (by omega) (by omega)]
      · simp [h]
      · simp -implicitDefEqProofs [L36_0, B36_0, hlt, hlt2, hg, hgy, h, hw]
    · have h' : (x == y) = false := by simpa using h
      refine iterJ_done ?_
      simp -implicitDefEqProofs [L36_0, B36_0, hlt, hlt2, hg, hgy, h, h', hw]
theorem e36 {n : Nat} (a b : RecV) (hs : a.perms.l.length < 1000000) (hn : a.perms.l.length + 4 ≤ n) : cpJ PR n 36 [a.d, b.d] = some (.bool (sameV a b)) := by
  obtain ⟨n, rfl⟩ : ∃ m, n = m + 1 := ⟨n - 1, by omega⟩
  rw [u36]
  unfold sameV
  by_cases c1 : a.gr = b.gr
  case neg =>
    have c1' : (a.gr == b.gr) = false := beq_eq_false_iff_ne.2 c1
    simp -implicitDefEqProofs [D36, c1']
  by_cases c2 : a.pe = b.pe
  case neg =>
    have c2' : (a.pe == b.pe) = false := beq_eq_false_iff_ne.2 c2
    simp -implicitDefEqProofs [D36, c1, c2']
  by_cases c3 : a.src = b.src
  case neg =>
    have c3' : (a.src == b.src) = false := by simpa using c3
    simp -implicitDefEqProofs [D36, c1, c2, c3, c3']
  by_cases c4 : a.tgt = b.tgt
  case neg =>
    have c4' : (a.tgt == b.tgt) = false := by simpa using c4
    simp -implicitDefEqProofs [D36, c1, c2, c3, c4, c4']
  by_cases c5 : a.cls = b.cls
  case neg =>
    have c5' : (a.cls == b.cls) = false := by simpa using c5
    simp -implicitDefEqProofs [D36, c1, c2, c3, c4, c5, c5']
  by_cases hl : a.perms.l.length = b.perms.l.length
  · have := l36 (n := n) a b hl hs false emptySto a.perms.l.length 0 n (by omega) (by omega)
    simp only [Int.natCast_zero, List.drop_zero] at this
    simp -implicitDefEqProofs [D36, c1, c2, c3, c4, c5, hl, this]
  · have hli : ¬ ((a.perms.l.length : Int) = (b.perms.l.length : Int)) := by omega
    have hlb : ((a.perms.l.length : Int) == (b.perms.l.length : Int)) = false := beq_eq_false_iff_ne.2 (by omega)
    have hne : ¬ (a.perms.l = b.perms.l) := fun h => hl (by rw [h])
    have hnb : (a.perms.l == b.perms.l) = false := by simpa using hne
    simp -implicitDefEqProofs [D36, c1, c2, c3, c4, c5, hl, hli, hlb, hne, hnb]
end Go.Proofs.YtagkgekpfgepoaaDoor
namespace Go.Proofs.YtagkgekpfgepoaaDoor
set_option linter.unusedVariables false
set_option linter.unusedSimpArgs false
set_option maxRecDepth 20000
set_option maxHeartbeats 4000000
open Go
theorem u51 (n : Nat) (xs : List DVal) : cpJ PR (n + 1) 51 xs = joinSem xs := by
  have e : PR 51 = some (.prim joinSem) := by kernel_rfl
  simp [cpJ, evJ, e, Function.comp_def]
theorem u52 (n : Nat) (xs : List DVal) : cpJ PR (n + 1) 52 xs = atoiSem xs := by
  have e : PR 52 = some (.prim atoiSem) := by kernel_rfl
  simp [cpJ, evJ, e, Function.comp_def]
theorem u53 (n : Nat) (xs : List DVal) : cpJ PR (n + 1) 53 xs = genSplitSem xs := by
  have e : PR 53 = some (.prim genSplitSem) := by kernel_rfl
  simp [cpJ, evJ, e, Function.comp_def]
theorem u66 (n : Nat) (xs : List DVal) : cpJ PR (n + 1) 66 xs = fmtIntSem xs := by
  have e : PR 66 = some (.prim fmtIntSem) := by kernel_rfl
  simp [cpJ, evJ, e, Function.comp_def]
theorem e50 {n : Nat} (hn : 3 ≤ n) (i : Int) (h0 : -9223372036854775808 ≤ i) (h1 : i ≤ 9223372036854775807) : cpJ PR n 50 [.int .i64 i] = some (.str (decB i)) := by
  obtain ⟨n, rfl⟩ : ∃ m, n = m + 3 := ⟨n - 3, by omega⟩
  have h87 : cpJ PR (n + 1) 66 [.int .i64 i, .int .i64 10] = some (.str (decB i)) := by
    rw [u66]
    simp only [fmtIntSem]
    rw [if_pos ⟨h0, h1⟩]
    rfl
  have h76 : cpJ PR (n + 2) 57 [.int .i64 i] = some (.str (decB i)) := by
    rw [u57]
    simp -implicitDefEqProofs [D57, h87]
  rw [u50]
  simp -implicitDefEqProofs [D50, h76]
theorem strsOf_map : ∀ (l : List Bs), strsOf (l.map fun s => [DVal.str s]) = some l
  | [] => rfl
  | s :: l => by simp [strsOf, strsOf_map l]
theorem e51 {n : Nat} (hn : 1 ≤ n) (z : Zs) (w : Bs) (l : List Bs) (sep : Bs) (hl : (w :: l).length ≤ 140737488355328) (hj : (Lib.join (w :: l) sep).length ≤ 140737488355328) :
    cpJ PR n 51 [slD z 1 ((w :: l).map fun s => [DVal.str s]), .str sep] = some (.str (Lib.join (w :: l) sep)) := by
  obtain ⟨n, rfl⟩ : ∃ m, n = m + 1 := ⟨n - 1, by omega⟩
  rw [u51]
  have e : ∀ o, joinSem [.slice false o 1 ((w :: l).map fun s => [DVal.str s]), .str sep] = some (.str (Lib.join (w :: l) sep)) := by
    intro o
    simp only [joinSem, strsOf_map, Option.bind_some]
    rw [if_pos ⟨hl, hj⟩]
  cases z <;> exact e _
def rowS (s : Bs) : List DVal := [.str s]
theorem elems_strs (p : Sl Bs) : elemsOf (strs p) = some (false, p.l.map rowS) := elems_slD
theorem szOk_strs (p : Sl Bs) : (strs p).szOk 1 = true := szOk_slD
structure Nums (r : RecV) : Prop where
  t0 : -9223372036854775808 ≤ r.time
  t1 : r.time ≤ 9223372036854775807
  s0 : -9223372036854775808 ≤ r.seq
  s1 : r.seq ≤ 9223372036854775807
  c0 : -9223372036854775808 ≤ r.count
  c1 : r.count ≤ 9223372036854775807
theorem e39 {n : Nat} (hn : 10 ≤ n) (r : RecV) (hb : Nums r) (hp : r.perms.l.length ≤ 1000000) (ht : (textB r).length ≤ 140737488355328) : cpJ PR n 39 [r.d] = some (.str (textB r)) := by
  obtain ⟨n, rfl⟩ : ∃ m, n = m + 1 := ⟨n - 1, by omega⟩
  have d1 := e50 (n := n) (by omega) r.time hb.t0 hb.t1
  have d2 := e50 (n := n) (by omega) r.seq hb.s0 hb.s1
  have d3 := e50 (n := n) (by omega) r.count hb.c0 hb.c1
  have hwl : (wordsB r).length ≤ 140737488355328 := by
    have e : (wordsB r).length = r.perms.l.length + 15 + (if r.pe then 1 else 0) := by
      cases hp : r.pe <;> simp [wordsB, endsB, hp] <;> omega
    rw [e]
    split <;> omega
  obtain ⟨vx1, σ1, a1, o1⟩ := own_app (σ := emptySto) (x := strs r.perms) (new := r.perms.l.map rowS) (own_lit emptySto 1 [[.str (verbB r.gr)], [.str [123]]]) (elems_strs _) (szOk_strs _) (by simp; omega)
  obtain ⟨vx2, σ2, a2, o2⟩ := own_app (x := .slice false 1 1 [[.str [125]], [.str [102, 111, 114]], [.str r.src], [.str [116, 111]], [.str r.tgt], [.str [58]], [.str r.cls], [.str [116, 105, 109, 101]], [.str (decB r.time)], [.str [115, 101, 113]], [.str (decB r.seq)], [.str [99, 111, 117, 110, 116]], [.str (decB r.count)]]) o1 rfl (by simp [DVal.szOk]) (by simp; omega)
  rw [u39]
  cases hpe : r.pe with
  | false =>
    obtain ⟨z, hz⟩ := own_seal o2
    have e : ([[DVal.str (verbB r.gr)], [DVal.str [123]]] ++ r.perms.l.map rowS ++ [[.str [125]], [.str [102, 111, 114]], [.str r.src], [.str [116, 111]], [.str r.tgt], [.str [58]], [.str r.cls], [.str [116, 105, 109, 101]], [.str (decB r.time)], [.str [115, 101, 113]], [.str (decB r.seq)], [.str [99, 111, 117, 110, 116]], [.str (decB r.count)]]) = (wordsB r).map fun s => [DVal.str s] := by
      simp [wordsB, endsB, hpe, rowS, Function.comp_def]
    rw [e] at hz
    have hj := e51 (n := n) (by omega) z _ _ [32] hwl ht
    have hj : cpJ PR n 51 [slD z 1 ((wordsB r).map fun s => [DVal.str s]), .str [32]] = some (.str (textB r)) := hj
    generalize slD z 1 ((wordsB r).map fun s => [DVal.str s]) = L at hz hj
    clear e
    cases hg : r.gr <;> rw [hg] at a1 <;> simp only [verbB, Bool.false_eq_true, if_false, if_true] at a1 <;> simp -implicitDefEqProofs [D39, L39_0, J39_0, hg, hpe, a1, a2, d1, d2, d3, hz, hj]
  | true =>
    obtain ⟨vx3, σ3, a3, o3⟩ := own_app (x := .slice false 1 1 [[.str [112, 101, 114, 109, 105, 115, 115, 105, 118, 101]]]) o2 rfl (by simp [DVal.szOk]) (by simp; omega)
    obtain ⟨z, hz⟩ := own_seal o3
    have e : ([[DVal.str (verbB r.gr)], [DVal.str [123]]] ++ r.perms.l.map rowS ++ [[.str [125]], [.str [102, 111, 114]], [.str r.src], [.str [116, 111]], [.str r.tgt], [.str [58]], [.str r.cls], [.str [116, 105, 109, 101]], [.str (decB r.time)], [.str [115, 101, 113]], [.str (decB r.seq)], [.str [99, 111, 117, 110, 116]], [.str (decB r.count)]] ++ [[.str [112, 101, 114, 109, 105, 115, 115, 105, 118, 101]]]) = (wordsB r).map fun s => [DVal.str s] := by
      simp [wordsB, endsB, hpe, rowS, Function.comp_def]
    rw [e] at hz
    have hj := e51 (n := n) (by omega) z _ _ [32] hwl ht
    have hj : cpJ PR n 51 [slD z 1 ((wordsB r).map fun s => [DVal.str s]), .str [32]] = some (.str (textB r)) := hj
    generalize slD z 1 ((wordsB r).map fun s => [DVal.str s]) = L at hz hj
    clear e
    cases hg : r.gr <;> rw [hg] at a1 <;> simp only [verbB, Bool.false_eq_true, if_false, if_true] at a1 <;> simp -implicitDefEqProofs [D39, L39_0, J39_0, hg, hpe, a1, a2, a3, d1, d2, d3, hz, hj]
theorem e24 {n : Nat} (r : RecV) (hf : Fit r) (hn : stepsR r + 300 ≤ n) : cpJ PR n 24 [r.d] = some (.tup [.str (if chkV r = 0 then textB r else []), .int .i64 (chkV r)]) := by
  obtain ⟨n, rfl⟩ : ∃ m, n = m + 1 := ⟨n - 1, by omega⟩
  have h1 := e14 (n := n) r hf (by omega)
  rw [u24]
  by_cases hc : chkV r = 0
  · have ok := chk_ok hc
    have hl := text_len ok
    have h2 := e39 (n := n) (by omega) r ⟨by have := ok.time; omega, by have := ok.time; omega, by have := ok.seq; omega, by have := ok.seq; omega, by have := ok.count; omega, by have := ok.count; omega⟩ (by have := hf.small; omega) (by have := hl.1; omega)
    rw [hc] at h1
    rw [if_pos hc, hc]
    simp -implicitDefEqProofs [D24, h1, h2]
  · rw [if_neg hc]
    simp -implicitDefEqProofs [D24, h1, hc]
end Go.Proofs.YtagkgekpfgepoaaDoor
namespace Go.Proofs.YtagkgekpfgepoaaDoor
set_option linter.unusedVariables false
set_option linter.unusedSimpArgs false
set_option maxRecDepth 20000
set_option maxHeartbeats 4000000
open Go
end Go.Proofs.YtagkgekpfgepoaaDoor
namespace Go.Proofs.YtagkgekpfgepoaaDoor
set_option linter.unusedVariables false
set_option linter.unusedSimpArgs false
set_option maxRecDepth 20000
set_option maxHeartbeats 4000000
open Go
theorem own_sealCell {σ : Sto} {sz : Nat} {v : DVal} {l : List (List DVal)} (h : Own σ sz v l) : ∃ z, v.sealCell = some (slD z sz l) := by
  rcases h with ⟨rfl, rfl⟩ | rfl | ⟨t, rfl, ht⟩
  · exact ⟨.nil, rfl⟩
  · exact ⟨.lit, rfl⟩
  · refine ⟨.full, ?_⟩
    simp [DVal.sealCell, slD]
theorem e41 {n : Nat} (hn : 3 ≤ n) (s : Bs) (hs : s.length ≤ 400000) : cpJ PR n 41 [.str s, .str [32]] = some (strsD .full (parts 32 s)) := by
  obtain ⟨n, rfl⟩ : ∃ m, n = m + 2 := ⟨n - 2, by omega⟩
  have h : cpJ PR (n + 1) 53 [.str s, .str [32], .int .i64 0, .int .i64 (-1)] = some (strsD .full (parts 32 s)) := by
    rw [u53]
    simp only [genSplitSem]
    rw [if_pos ⟨by omega, by simp⟩, split_parts]
    rfl
  rw [u41]
  simp -implicitDefEqProofs [D41, h]
theorem dropS (w : List Bs) (j : Nat) (h : j ≤ w.length) : slcVSem 1 true false false [strsD .full w, .int .i64 j] = some (strsD .full (w.drop j)) := by
  show slcVSem 1 true false false [.slice false 0 1 (w.map fun s => [DVal.str s]), .int .i64 j] = some (.slice false 0 1 ((w.drop j).map fun s => [DVal.str s]))
  have h1 : (0 : Int) ≤ (j : Int) ∧ (j : Int) ≤ ((w.map fun s => [DVal.str s]).length : Int) := ⟨by omega, by simp; omega⟩
  simp only [slcVSem, bounds, if_true, if_pos h1]
  simp [List.map_drop, List.take_of_length_le]
def atoiV (s : Bs) : Int := match Lib.atoiAll s with
  | .ok v => v
  | .range => Lib.atoiSat s
  | _ => 0
theorem e52 {n : Nat} (hn : 1 ≤ n) (s : Bs) (hs : s.length ≤ 400000) : ∃ e, cpJ PR n 52 [.str s] = some (.tup [.int .i64 (atoiV s), e]) := by
  obtain ⟨n, rfl⟩ : ∃ m, n = m + 1 := ⟨n - 1, by omega⟩
  rw [u52]
  simp only [atoiSem]
  rw [if_pos (by omega)]
  unfold atoiV
  cases Lib.atoiAll s <;> exact ⟨_, rfl⟩
def endsE (g : Bool) (ps : List Bs) : List Bs → Option RecV
  | [a0, a1, a2, a3, a4, a5, a6, a7, a8, a9, a10, a11] => some ⟨atoiV a7, atoiV a9, g, false, a1, a3, a5, ⟨.full, ps⟩, atoiV a11⟩
  | [a0, a1, a2, a3, a4, a5, a6, a7, a8, a9, a10, a11, a12] => some ⟨atoiV a7, atoiV a9, g, true, a1, a3, a5, ⟨.full, ps⟩, atoiV a11⟩
  | _ => none
def parseE (g : Bool) (ps : List Bs) : List Bs → Option RecV
  | [] => none
  | x :: w => if x = [125] then endsE g ps w else parseE g (ps ++ [x]) w
def parseV : List Bs → Option RecV
  | g :: b :: w => if b = [123] then parseE (g == [103, 114, 97, 110, 116, 101, 100]) [] w else none
  | _ => none
abbrev rec0 (g : Bool) (v : DVal) : DVal := .agg [.int .i64 0, .int .i64 0, .bool g, .bool false, .str [], .str [], .str [], v, .int .i64 0]
abbrev recW (r : RecV) (v : DVal) : DVal := .agg [.int .i64 r.time, .int .i64 r.seq, .bool r.gr, .bool r.pe, .str r.src, .str r.tgt, .str r.cls, v, .int .i64 r.count]
def zeroR : RecV := ⟨0, 0, false, false, [], [], [], ⟨.nil, []⟩, 0⟩
theorem ends_other {g : Bool} {ps w : List Bs} (h : endsE g ps w = none) : w.length ≠ 12 ∧ w.length ≠ 13 := by
  unfold endsE at h
  split at h
  · cases h
  · cases h
  · rename_i h1 h2
    refine ⟨fun hl => ?_, fun hl => ?_⟩
    · match w, hl with
      | [a0, a1, a2, a3, a4, a5, a6, a7, a8, a9, a10, a11], _ => exact h1 _ _ _ _ _ _ _ _ _ _ _ _ rfl
    · match w, hl with
      | [a0, a1, a2, a3, a4, a5, a6, a7, a8, a9, a10, a11, a12], _ => exact h2 _ _ _ _ _ _ _ _ _ _ _ _ _ rfl
def Par (f : Option Out) (g : Bool) (ps w : List Bs) : Prop :=
  match parseE g ps w with
  | none => ∃ a v τ, v.cells = [v] ∧ f = some (.next 0 [.bool false, a, rec0 g v] τ)
  | some r => ∃ v τ, Own τ 1 v (r.perms.l.map rowS) ∧ f = some (.done (.tup [recW r v, .bool true]) τ)
theorem l40 {n : Nat} (hn : 1 ≤ n) (g : Bool) : ∀ (w ps : List Bs) (v : DVal) (σ : Sto) (m : Nat), Own σ 1 v (ps.map rowS) → (∀ x ∈ w, x.length ≤ 400000) → ps.length + w.length ≤ 1000000 → w.length < m →
    Par (iterJ 1 (L40_0 (cpJ PR n) (ciJ PR n) n) m [strsD .full w, .nils, .bool false, rec0 g v] σ) g ps w
  | [], ps, v, σ, m, ho, hw, hl, hm => by
    obtain ⟨m, rfl⟩ : ∃ q, m = q + 1 := ⟨m - 1, by omega⟩
    have : iterJ 1 (L40_0 (cpJ PR n) (ciJ PR n) n) (m + 1) [strsD .full [], .nils, .bool false, rec0 g v] σ = some (.next 0 [.bool false, strsD .full [], rec0 g v] σ) := by
      refine iterJ_out ?_ (by decide)
      simp -implicitDefEqProofs [L40_0, B40_0]
    exact ⟨_, v, σ, own_cells ho, this⟩
  | x :: w, ps, v, σ, m, ho, hw, hl, hm => by
    obtain ⟨m, rfl⟩ : ∃ q, m = q + 1 := ⟨m - 1, by omega⟩
    have hc := own_cells ho
    have hk := own_okCell ho
    have hd : slcVSem 1 true false false [strsD .full (x :: w), .int .i64 1] = some (strsD .full w) := dropS (x :: w) 1 (by simp)
    have hi : idxSSem 1 [strsD .full (x :: w), .int .i64 0] = some (.elem [.str x] 0) := by simp
    have hlen : lenSlSem [strsD .full (x :: w)] = some (.int .i64 ((w.length + 1 : Nat) : Int)) := by simp
    have h0 : ((((w.length + 1 : Nat) : Int)) == 0) = false := beq_eq_false_iff_ne.2 (by omega)
    have hwl : lenSlSem [strsD .full w] = some (.int .i64 w.length) := by simp
    by_cases hx : x = [125]
    · subst hx
      unfold Par
      rw [parseE, if_pos rfl]
      cases he : endsE g ps w with
      | none =>
        obtain ⟨n12, n13⟩ := ends_other he
        have b12 : ((w.length : Int) == 12) = false := beq_eq_false_iff_ne.2 (by omega)
        have b13 : ((w.length : Int) == 13) = false := beq_eq_false_iff_ne.2 (by omega)
        have c12 : ((w.length : Int) != 12) = true := by simp only [bne, b12]; rfl
        have c13 : ((w.length : Int) != 13) = true := by simp only [bne, b13]; rfl
        have i12 : ¬ ((w.length : Int) = 12) := by omega
        have i13 : ¬ ((w.length : Int) = 13) := by omega
        have : iterJ 1 (L40_0 (cpJ PR n) (ciJ PR n) n) (m + 1) [strsD .full ([125] :: w), .nils, .bool false, rec0 g v] σ = some (.next 0 [.bool false, strsD .full ([125] :: w), rec0 g v] σ) := by
          refine iterJ_out ?_ (by decide)
          generalize strsD .full ([125] :: w) = X at *
          generalize strsD .full w = Y at *
          simp -implicitDefEqProofs [L40_0, B40_0, hlen, h0, hi, hd, hwl, b12, b13, c12, c13, i12, i13, n12, n13]
        exact ⟨_, v, σ, hc, this⟩
      | some r =>
        unfold endsE at he
        split at he
        · rename_i a0 a1 a2 a3 a4 a5 a6 a7 a8 a9 a10 a11
          simp only [Option.some.injEq] at he
          subst he
          obtain ⟨q1, h1⟩ := e52 (n := n) hn a7 (hw _ (by simp))
          obtain ⟨q2, h2⟩ := e52 (n := n) hn a9 (hw _ (by simp))
          obtain ⟨q3, h3⟩ := e52 (n := n) hn a11 (hw _ (by simp))
          refine ⟨v, σ, ho, iterJ_done ?_⟩
          generalize strsD .full ([125] :: [a0, a1, a2, a3, a4, a5, a6, a7, a8, a9, a10, a11]) = X at *
          simp -implicitDefEqProofs [L40_0, B40_0, hlen, h0, hi, hd, hwl, h1, h2, h3, hc, hk]
        · rename_i a0 a1 a2 a3 a4 a5 a6 a7 a8 a9 a10 a11 a12
          simp only [Option.some.injEq] at he
          subst he
          obtain ⟨q1, h1⟩ := e52 (n := n) hn a7 (hw _ (by simp))
          obtain ⟨q2, h2⟩ := e52 (n := n) hn a9 (hw _ (by simp))
          obtain ⟨q3, h3⟩ := e52 (n := n) hn a11 (hw _ (by simp))
          refine ⟨v, σ, ho, iterJ_done ?_⟩
          generalize strsD .full ([125] :: [a0, a1, a2, a3, a4, a5, a6, a7, a8, a9, a10, a11, a12]) = X at *
          simp -implicitDefEqProofs [L40_0, B40_0, hlen, h0, hi, hd, hwl, h1, h2, h3, hc, hk]
        · cases he
    · have hxb : (x == [125]) = false := beq_eq_false_iff_ne.2 hx
      obtain ⟨v', σ', a1, o1⟩ := own_one (own := 1) (r := rowS x) ho (by simp at hl ⊢; omega)
      have a1 : app2Sem false 1 σ [v, .slice false 1 1 [[.str x]]] = some (v', σ') := a1
      have hc' := own_cells o1
      have hk' := own_okCell o1
      have ih := l40 hn g w (ps ++ [x]) v' σ' m (by rw [List.map_append]; exact o1) (fun y hy => hw y (by simp [hy])) (by simp at hl ⊢; omega) (by simp at hm; omega)
      unfold Par at ih ⊢
      rw [parseE, if_neg hx]
      have e : iterJ 1 (L40_0 (cpJ PR n) (ciJ PR n) n) (m + 1) [strsD .full (x :: w), .nils, .bool false, rec0 g v] σ = iterJ 1 (L40_0 (cpJ PR n) (ciJ PR n) n) m [strsD .full w, .nils, .bool false, rec0 g v'] σ' := by
        refine iterJ_next' ?_
        generalize strsD .full (x :: w) = X at *
        generalize strsD .full w = Y at *
        simp -implicitDefEqProofs [L40_0, B40_0, hlen, h0, hi, hd, hx, hxb, a1, hc, hk, hc', hk']
      rw [e]
      exact ih
theorem e40 {n : Nat} (ws : List Bs) (hw : ∀ x ∈ ws, x.length ≤ 400000) (hl : ws.length ≤ 1000000) (hn : ws.length + 3 ≤ n) :
    match parseV ws with
    | none => cpJ PR n 40 [strsD .full ws] = some (.tup [zeroR.d, .bool false])
    | some r => ∃ z, cpJ PR n 40 [strsD .full ws] = some (.tup [({ r with perms := ⟨z, r.perms.l⟩ } : RecV).d, .bool true]) := by
  obtain ⟨n, rfl⟩ : ∃ m, n = m + 1 := ⟨n - 1, by omega⟩
  obtain ⟨m, hm⟩ : ∃ m, n = m + 1 := ⟨n - 1, by omega⟩
  rw [u40]
  have out : ∀ (a v : DVal) (g : Bool) (τ : Sto), v.cells = [v] → L40_2 (cpJ PR n) (ciJ PR n) n [.bool false, a, rec0 g v] τ = some (.done (.tup [zeroR.d, .bool false]) τ) := by
    intro a v g τ hv
    have : iterJ 0 (L40_1 (cpJ PR n) (ciJ PR n) n) n [.bool false, rec0 g v] τ = some (.done (.tup [zeroR.d, .bool false]) τ) := by
      rw [show iterJ 0 (L40_1 (cpJ PR n) (ciJ PR n) n) n [.bool false, rec0 g v] τ = iterJ 0 (L40_1 (cpJ PR n) (ciJ PR n) n) (m + 1) [.bool false, rec0 g v] τ by rw [← hm]]
      refine iterJ_done ?_
      simp -implicitDefEqProofs [L40_1, B40_1]
      rfl
    simp -implicitDefEqProofs [L40_2, J40_2, this]
  have fin : ∀ τ : Sto, finP (some (.done (.tup [zeroR.d, .bool false]) τ)) = some (.tup [zeroR.d, .bool false]) := by
    intro τ
    simp -implicitDefEqProofs [DVal.handBack]
  have close : ∀ (ws : List Bs) (τ : Sto), D40 (cpJ PR n) (ciJ PR n) n (strsD .full ws) emptySto = some (.done (.tup [zeroR.d, .bool false]) τ) → finP (D40 (cpJ PR n) (ciJ PR n) n (strsD .full ws) emptySto) = some (.tup [zeroR.d, .bool false]) := by
    intro ws τ h
    rw [h]
    exact fin τ
  match ws, hw, hl, hn with
  | [], hw, hl, hn =>
    simp only [parseV]
    refine close _ emptySto ?_
    rw [← out (strsD .full []) .nils false emptySto rfl]
    simp -implicitDefEqProofs [D40]
  | [a], hw, hl, hn =>
    simp only [parseV]
    refine close _ emptySto ?_
    rw [← out (strsD .full [a]) .nils false emptySto rfl]
    simp -implicitDefEqProofs [D40]
  | g :: b :: w, hw, hl, hn =>
    obtain ⟨K, hlen, h2, h2'⟩ : ∃ K : Int, lenSlSem [strsD .full (g :: b :: w)] = some (.int .i64 K) ∧ ¬ (K < 2) ∧ 2 ≤ K := ⟨((w.length + 2 : Nat) : Int), by simp; omega, by omega, by omega⟩
    have hi0 : idxSSem 1 [strsD .full (g :: b :: w), .int .i64 0] = some (.elem [.str g] 0) := by simp
    have hi1 : idxSSem 1 [strsD .full (g :: b :: w), .int .i64 1] = some (.elem [.str b] 0) := by simp
    have hd : slcVSem 1 true false false [strsD .full (g :: b :: w), .int .i64 2] = some (strsD .full w) := dropS (g :: b :: w) 2 (by simp)
    simp only [parseV]
    by_cases hb : b = [123]
    · subst hb
      rw [if_pos rfl]
      have hP := l40 (n := n) (by omega) (g == [103, 114, 97, 110, 116, 101, 100]) w [] .nils emptySto n (own_nils _ _) (fun x hx => hw x (by simp [hx])) (by simp at hl ⊢; omega) (by simp at hn; omega)
      unfold Par at hP
      cases hp : parseE (g == [103, 114, 97, 110, 116, 101, 100]) [] w with
      | none =>
        rw [hp] at hP
        obtain ⟨a, v, τ, hv, he⟩ := hP
        have o := out a v (g == [103, 114, 97, 110, 116, 101, 100]) τ hv
        simp only
        refine close _ τ ?_
        rw [← o]
        generalize strsD .full (g :: [123] :: w) = X at *
        simp -implicitDefEqProofs [D40, hlen, h2, h2', hi0, hi1, hd, he]
      | some r =>
        rw [hp] at hP
        obtain ⟨v, τ, ho, he⟩ := hP
        obtain ⟨z, hz⟩ := own_sealCell ho
        refine ⟨z, ?_⟩
        have f : finP (some (.done (.tup [recW r v, .bool true]) τ)) = some (.tup [({ r with perms := ⟨z, r.perms.l⟩ } : RecV).d, .bool true]) := by
          simp -implicitDefEqProofs [DVal.handBack, sealVals, DVal.sealVal, sealCells, hz]
          rfl
        have key : D40 (cpJ PR n) (ciJ PR n) n (strsD .full (g :: [123] :: w)) emptySto = some (.done (.tup [recW r v, .bool true]) τ) := by
          generalize strsD .full (g :: [123] :: w) = X at *
          simp -implicitDefEqProofs [D40, hlen, h2, h2', hi0, hi1, hd, he]
        rw [key]
        exact f
    · rw [if_neg hb]
      have hbb : (b == [123]) = false := beq_eq_false_iff_ne.2 hb
      have o := out (strsD .full (g :: b :: w)) .nils false emptySto rfl
      simp only
      refine close _ emptySto ?_
      rw [← o]
      generalize strsD .full (g :: b :: w) = X at *
      simp -implicitDefEqProofs [D40, hlen, h2, h2', hi0, hi1, hb, hbb]
end Go.Proofs.YtagkgekpfgepoaaDoor
namespace Go.Proofs.YtagkgekpfgepoaaDoor
set_option linter.unusedVariables false
set_option linter.unusedSimpArgs false
set_option maxRecDepth 20000
set_option maxHeartbeats 4000000
open Go
theorem ends_mem {g : Bool} {ps w : List Bs} {r : RecV} (h : endsE g ps w = some r) : r.src ∈ w ∧ r.tgt ∈ w ∧ r.cls ∈ w ∧ r.perms.l = ps := by
  unfold endsE at h
  split at h
  · simp only [Option.some.injEq] at h
    subst h
    simp
  · simp only [Option.some.injEq] at h
    subst h
    simp
  · cases h
theorem parseE_mem {g : Bool} : ∀ {w ps : List Bs} {r : RecV}, parseE g ps w = some r → r.src ∈ w ∧ r.tgt ∈ w ∧ r.cls ∈ w ∧ (∀ p ∈ r.perms.l, p ∈ ps ∨ p ∈ w) ∧ r.perms.l.length ≤ ps.length + w.length
  | [], ps, r, h => by simp [parseE] at h
  | x :: w, ps, r, h => by
    unfold parseE at h
    split at h
    · obtain ⟨h1, h2, h3, h4⟩ := ends_mem h
      refine ⟨by simp [h1], by simp [h2], by simp [h3], fun p hp => .inl (by rw [h4] at hp; exact hp), by rw [h4]; simp⟩
    · obtain ⟨h1, h2, h3, h4, h5⟩ := parseE_mem h
      refine ⟨by simp [h1], by simp [h2], by simp [h3], fun p hp => ?_, by simp at h5 ⊢; omega⟩
      rcases h4 p hp with h | h
      · rcases List.mem_append.1 h with h | h
        · exact .inl h
        · exact .inr (by simp at h; simp [h])
      · exact .inr (by simp [h])
theorem parseV_mem {ws : List Bs} {r : RecV} (h : parseV ws = some r) : r.src ∈ ws ∧ r.tgt ∈ ws ∧ r.cls ∈ ws ∧ (∀ p ∈ r.perms.l, p ∈ ws) ∧ r.perms.l.length ≤ ws.length := by
  unfold parseV at h
  split at h
  · split at h
    · obtain ⟨h1, h2, h3, h4, h5⟩ := parseE_mem h
      refine ⟨by simp [h1], by simp [h2], by simp [h3], fun p hp => ?_, by simp at h5 ⊢; omega⟩
      rcases h4 p hp with h | h
      · cases h
      · simp [h]
    · cases h
  · cases h
theorem sum_le {B : Nat} : ∀ {l : List Bs}, (∀ x ∈ l, x.length ≤ B) → (l.map List.length).sum ≤ l.length * B
  | [], _ => by simp
  | x :: l, h => by
    have h1 := h x (by simp)
    have h2 := sum_le (l := l) fun y hy => h y (by simp [hy])
    simp only [List.map_cons, List.sum_cons, List.length_cons, Nat.add_mul]
    omega
theorem fit_of {ws : List Bs} {r : RecV} (hw : ∀ x ∈ ws, x.length ≤ 400000) (hl : ws.length ≤ 400001) (h : parseV ws = some r) (z : Zs) :
    Fit { r with perms := ⟨z, r.perms.l⟩ } ∧ stepsR { r with perms := ⟨z, r.perms.l⟩ } ≤ 500000000000 := by
  obtain ⟨h1, h2, h3, h4, h5⟩ := parseV_mem h
  have l1 := hw _ h1
  have l2 := hw _ h2
  have l9003 := hw _ h3
  have l9004 : ∀ p ∈ r.perms.l, p.length ≤ 400000 := fun p hp => hw _ (h4 p hp)
  have hs := sum_le l9004
  have hm : r.perms.l.length * 400000 ≤ 400001 * 400000 := Nat.mul_le_mul_right _ (by omega)
  refine ⟨⟨by show r.src.length < _; omega, by show r.tgt.length < _; omega, by show r.cls.length < _; omega, fun s hs => by have := l9004 s hs; omega, by show r.perms.l.length < _; omega⟩, ?_⟩
  show r.src.length + r.tgt.length + r.cls.length + (r.perms.l.map List.length).sum + r.perms.l.length ≤ _
  omega
theorem parseE_perms {g : Bool} {w : List Bs} : ∀ {l ps : List Bs}, (∀ x ∈ l, x ≠ [125]) → parseE g ps (l ++ [125] :: w) = endsE g (ps ++ l) w
  | [], ps, h => by
    rw [List.nil_append, parseE, if_pos rfl, List.append_nil]
  | x :: l, ps, h => by
    rw [List.cons_append, parseE, if_neg (h x (by simp)), parseE_perms fun y hy => h y (by simp [hy])]
    simp
theorem atoi_decB {i : Int} (h0 : 0 ≤ i) (h1 : i ≤ 1125899906842624) : atoiV (decB i) = i := by
  unfold atoiV
  rw [atoi_dec h0 h1]
theorem parse_text {r : RecV} (ok : RecOk r) : parseV (parts 32 (textB r)) = some { r with perms := ⟨.full, r.perms.l⟩ } := by
  rw [parts_text ok]
  have hp : ∀ x ∈ r.perms.l, x ≠ [125] := by
    intro x hx e
    have := name_no (ident_name (perms_ok ok.perms x hx)) (c := 125) (by decide) (by decide)
    rw [e] at this
    simp at this
  have t := atoi_decB ok.time.1 ok.time.2
  have s := atoi_decB ok.seq.1 ok.seq.2
  have c := atoi_decB (i := r.count) (by have := ok.count.1; omega) (by have := ok.count.2; omega)
  unfold wordsB
  rw [parseV, if_pos rfl, parseE_perms hp, List.nil_append]
  obtain ⟨time, seq, gr, pe, src, tgt, cls, perms, count⟩ := r
  simp only at t s c ⊢
  cases pe <;> cases gr <;> simp [endsB, endsE, verbB, t, s, c]
def ParseIs (o : Option DVal) (s : Bs) : Prop :=
  (∃ r : RecV, chkV r = 0 ∧ textB r = s ∧ o = some (.tup [r.d, .int .i64 0])) ∨ ((∀ r : RecV, chkV r = 0 → textB r ≠ s) ∧ o = some (.tup [zeroR.d, .int .i64 9]))
theorem e25 {n : Nat} (hn : 1000000000000 ≤ n) (s : Bs) (hs : s.length ≤ 400000) : ParseIs (cpJ PR n 25 [.str s]) s := by
  obtain ⟨n, rfl⟩ : ∃ m, n = m + 1 := ⟨n - 1, by omega⟩
  have h1 := e41 (n := n) (by omega) s hs
  obtain ⟨pl, pm⟩ := parts_len 32 s
  have hw : ∀ x ∈ parts 32 s, x.length ≤ 400000 := fun x hx => by have := pm x hx; omega
  have h2 := e40 (n := n) (parts 32 s) hw (by omega) (by omega)
  have uniq : ∀ r : RecV, chkV r = 0 → textB r = s → parseV (parts 32 s) = some { r with perms := ⟨.full, r.perms.l⟩ } := by
    rintro r hr rfl
    exact parse_text (chk_ok hr)
  have zz : jwrSem 0 9 [.agg [(.int .i64 0), (.int .i64 0), (.bool false), (.bool false), (.str []), (.str []), (.str []), .nils, (.int .i64 0)], zeroR.d] = some zeroR.d := rfl
  have zf : fldSem 0 (some 9) [zeroR.d] = some zeroR.d := rfl
  have zb : POp.sem (cpJ PR n) [] (.build [(.int .i64 0), (.int .i64 0), (.bool false), (.bool false), (.str []), (.str []), (.str []), .nils, (.int .i64 0)] []) = some zeroR.d := rfl
  unfold ParseIs
  rw [u25]
  generalize parts 32 s = ws at *
  cases hp : parseV ws with
  | none =>
    rw [hp] at h2 uniq
    refine .inr ⟨fun r hr ht => absurd (uniq r hr ht) (by simp), ?_⟩
    generalize zeroR = Z at *
    simp -implicitDefEqProofs [D25, h1, h2, zz, zf, zb, -POp.sem.eq_1]
  | some r =>
    rw [hp] at h2 uniq
    obtain ⟨z, h2⟩ := h2
    obtain ⟨hf, hst⟩ := fit_of hw (by omega) hp z
    have h3 := e24 (n := n) { r with perms := ⟨z, r.perms.l⟩ } hf (by omega)
    by_cases hc : chkV { r with perms := ⟨z, r.perms.l⟩ } = 0
    · rw [hc, if_pos rfl] at h3
      by_cases ht : textB { r with perms := ⟨z, r.perms.l⟩ } = s
      · refine .inl ⟨_, hc, ht, ?_⟩
        rw [ht] at h3
        generalize ({ r with perms := ⟨z, r.perms.l⟩ } : RecV) = R at *
        simp -implicitDefEqProofs [D25, h1, h2, h3]
      · refine .inr ⟨fun q hq hqt => ?_, ?_⟩
        · have := uniq q hq hqt
          simp only [Option.some.injEq] at this
          subst this
          exact ht hqt
        · have htb : (textB { r with perms := ⟨z, r.perms.l⟩ } == s) = false := beq_eq_false_iff_ne.2 ht
          generalize ({ r with perms := ⟨z, r.perms.l⟩ } : RecV) = R at *
          generalize textB R = T at *
          generalize zeroR = Z at *
          simp -implicitDefEqProofs [D25, h1, h2, h3, ht, htb, zz, zf, zb, -POp.sem.eq_1]
    · rw [if_neg hc] at h3
      refine .inr ⟨fun q hq hqt => ?_, ?_⟩
      · have := uniq q hq hqt
        simp only [Option.some.injEq] at this
        subst this
        exact hc hq
      · have hcb : (chkV { r with perms := ⟨z, r.perms.l⟩ } == 0) = false := beq_eq_false_iff_ne.2 hc
        have hcn : (chkV { r with perms := ⟨z, r.perms.l⟩ } != 0) = true := by simp only [bne, hcb]; rfl
        generalize ({ r with perms := ⟨z, r.perms.l⟩ } : RecV) = R at *
        generalize chkV R = T at *
        generalize zeroR = Z at *
        simp -implicitDefEqProofs [D25, h1, h2, h3, hc, hcb, hcn, zz, zf, zb, -POp.sem.eq_1]
end Go.Proofs.YtagkgekpfgepoaaDoor
namespace Go.Proofs.YtagkgekpfgepoaaDoor
set_option linter.unusedVariables false
set_option linter.unusedSimpArgs false
set_option maxRecDepth 20000
set_option maxHeartbeats 4000000
open Go
end Go.Proofs.YtagkgekpfgepoaaDoor
namespace Go.Proofs.YtagkgekpfgepoaaDoor
set_option linter.unusedVariables false
set_option linter.unusedSimpArgs false
set_option maxRecDepth 20000
set_option maxHeartbeats 8000000
open Go
end Go.Proofs.YtagkgekpfgepoaaDoor
namespace Go.Proofs.YtagkgekpfgepoaaDoor
set_option linter.unusedVariables false
set_option linter.unusedSimpArgs false
set_option maxRecDepth 20000
set_option maxHeartbeats 4000000
open Go
structure LimV where
  burst : Int
  interval : Int
  time : Int
  allowed : Int
  denied : Int
  bk : List (Bs × BktV)
def LimV.row (L : LimV) (mid : Nat) : List DVal := [.int .i64 L.burst, .int .i64 L.interval, .int .i64 1024, .int .i64 L.time, .int .i64 L.allowed, .int .i64 L.denied, .map mid]
def entB (e : Bs × BktV) : DVal := .tup [.str e.1, e.2.d]
def lookB (k : Bs) : List (Bs × BktV) → Nat → Option (Nat × BktV)
  | [], _ => none
  | e :: l, i => if k = e.1 then some (i, e.2) else lookB k l (i + 1)
def setB (k : Bs) (b : BktV) (l : List (Bs × BktV)) : List (Bs × BktV) := match lookB k l 0 with
  | some (i, _) => l.set i (k, b)
  | none => l ++ [(k, b)]
theorem find_B (k : Bs) : ∀ (l : List (Bs × BktV)) (i : Nat), findE false [.s] (.str k) (l.map entB) i = some ((lookB k l i).map fun r => (r.1, r.2.d))
  | [], i => rfl
  | e :: l, i => by
    show (if DVal.isAgg (.str e.1) == false then (match cellsEq [.s] [.str k] [.str e.1] with
      | some true => some (some (i, e.2.d))
      | some false => findE false [.s] (.str k) (l.map entB) (i + 1)
      | none => none) else none) = _
    rw [if_pos (show ((DVal.isAgg (.str e.1)) == false) = true from rfl), lookB]
    by_cases h : k = e.1
    · have : cellsEq [.s] [.str k] [.str e.1] = some true := by simp [cellsEq, cellEq, h]
      rw [this, if_pos h]
      rfl
    · have : cellsEq [.s] [.str k] [.str e.1] = some false := by simp [cellsEq, cellEq, h]
      rw [this, if_neg h]
      exact find_B k l (i + 1)
theorem key_B (k : Bs) : keyOk false [.s] (.str k) = true := by simp [keyOk, DVal.isAgg, DVal.plain, DVal.plainCell, cellsEq, cellEq, DVal.cells]
theorem findK_B (k : Bs) (l : List (Bs × BktV)) : findK false [.s] (.str k) (l.map entB) = some ((lookB k l 0).map fun r => (r.1, r.2.d)) := by
  have : (l.map entB).all (entOk false [.s]) = true := by
    rw [List.all_eq_true]
    intro e he
    obtain ⟨x, -, rfl⟩ := List.mem_map.1 he
    exact key_B x.1
  rw [findK, if_pos this, find_B]
def atV (L : LimV) (now : Int) : Int :=
  if L.time < (if 1125899906842624 < now then 1125899906842624 else now) then (if 1125899906842624 < now then 1125899906842624 else now) else L.time
abbrev w64 (x : Int) : Int := IntKind.i64.wrap x
def fillN (L : LimV) (b : BktV) (t : Int) : Int := if w64 (L.burst - b.left) < w64 ((w64 (t - b.clock)).tdiv L.interval) then w64 (L.burst - b.left) else w64 ((w64 (t - b.clock)).tdiv L.interval)
def filledV (L : LimV) (b : BktV) (t : Int) : BktV :=
  if w64 (b.left + fillN L b t) = L.burst then ⟨w64 (b.left + fillN L b t), t, b.dropped⟩ else ⟨w64 (b.left + fillN L b t), w64 (b.clock + w64 (fillN L b t * L.interval)), b.dropped⟩
def allowV (L : LimV) (k : Bs) (now : Int) : LimV × Bool :=
  if (filledV L (match lookB k L.bk 0 with | some (_, b) => b | none => ⟨L.burst, atV L now, 0⟩) (atV L now)).left = 0 then
    (⟨L.burst, L.interval, atV L now, L.allowed, w64 (L.denied + 1), setB k ⟨(filledV L (match lookB k L.bk 0 with | some (_, b) => b | none => ⟨L.burst, atV L now, 0⟩) (atV L now)).left, (filledV L (match lookB k L.bk 0 with | some (_, b) => b | none => ⟨L.burst, atV L now, 0⟩) (atV L now)).clock, w64 ((filledV L (match lookB k L.bk 0 with | some (_, b) => b | none => ⟨L.burst, atV L now, 0⟩) (atV L now)).dropped + 1)⟩ L.bk⟩, false)
  else
    (⟨L.burst, L.interval, atV L now, w64 (L.allowed + 1), L.denied, setB k ⟨w64 ((filledV L (match lookB k L.bk 0 with | some (_, b) => b | none => ⟨L.burst, atV L now, 0⟩) (atV L now)).left - 1), (filledV L (match lookB k L.bk 0 with | some (_, b) => b | none => ⟨L.burst, atV L now, 0⟩) (atV L now)).clock, 0⟩ L.bk⟩, true)
structure LimAt (σ : Sto) (lid mid : Nat) (L : LimV) : Prop where
  lidl : lid < σ.nobj
  midl : mid < σ.nobj
  ne : mid ≠ lid
  obj : σ.obj lid = .agg (L.row mid)
  map : σ.obj mid = .tup (L.bk.map entB)
section
variable {σ : Sto} {lid mid : Nat} {L : LimV} (h : LimAt σ lid mid L)
include h
theorem LimAt.ld0 : ldOSem σ none [.obj lid 0] = some (.int .i64 L.burst, σ) := by rw [ld_obj _ h.obj h.lidl]; rfl
theorem LimAt.ld1 : ldOSem σ none [.obj lid 1] = some (.int .i64 L.interval, σ) := by rw [ld_obj _ h.obj h.lidl]; rfl
theorem LimAt.ld2 : ldOSem σ none [.obj lid 2] = some (.int .i64 1024, σ) := by rw [ld_obj _ h.obj h.lidl]; rfl
theorem LimAt.ld3 : ldOSem σ none [.obj lid 3] = some (.int .i64 L.time, σ) := by rw [ld_obj _ h.obj h.lidl]; rfl
theorem LimAt.ld4 : ldOSem σ none [.obj lid 4] = some (.int .i64 L.allowed, σ) := by rw [ld_obj _ h.obj h.lidl]; rfl
theorem LimAt.ld5 : ldOSem σ none [.obj lid 5] = some (.int .i64 L.denied, σ) := by rw [ld_obj _ h.obj h.lidl]; rfl
theorem LimAt.ld6 : ldOSem σ none [.obj lid 6] = some (.map mid, σ) := by rw [ld_obj _ h.obj h.lidl]; rfl
theorem LimAt.st3 (v : Int) : stOSem σ 1 [.obj lid 3, .int .i64 v] = some (.undef, σ.put lid (.agg (({ L with time := v } : LimV).row mid))) := by
  rw [st_obj (k := 1) h.obj h.lidl rfl rfl]; rfl
theorem LimAt.st4 (v : Int) : stOSem σ 1 [.obj lid 4, .int .i64 v] = some (.undef, σ.put lid (.agg (({ L with allowed := v } : LimV).row mid))) := by
  rw [st_obj (k := 1) h.obj h.lidl rfl rfl]; rfl
theorem LimAt.st5 (v : Int) : stOSem σ 1 [.obj lid 5, .int .i64 v] = some (.undef, σ.put lid (.agg (({ L with denied := v } : LimV).row mid))) := by
  rw [st_obj (k := 1) h.obj h.lidl rfl rfl]; rfl
theorem LimAt.put (L' : LimV) (hb : L'.bk = L.bk) : LimAt (σ.put lid (.agg (L'.row mid))) lid mid L' := by
  refine ⟨h.lidl, h.midl, h.ne, by simp, ?_⟩
  rw [Sto.put_obj_ne h.ne, h.map, hb]
theorem LimAt.look (k : Bs) : lookSem false [.s] (.agg [(.int .i64 0), (.int .i64 0), (.int .i64 0)]) true σ [.map mid, .str k] = some (match lookB k L.bk 0 with | some (_, b) => .tup [b.d, .bool true] | none => .tup [(.agg [(.int .i64 0), (.int .i64 0), (.int .i64 0)]), .bool false], σ) := by
  simp only [lookSem, h.midl, key_B, and_self, if_true, h.map, findK_B, Option.map_some]
  cases lookB k L.bk 0 <;> rfl
theorem LimAt.len : lenMSem σ [.map mid] = some (.int .i64 L.bk.length, σ) := by
  simp only [lenMSem, h.midl, if_true, h.map]
  cases L.bk with
  | nil => rfl
  | cons e l => simp [entB, goI]
theorem LimAt.upd (k : Bs) (b : BktV) : mupdSem false [.s] σ [.map mid, .str k, b.d] = some (.undef, σ.put mid (.tup ((setB k b L.bk).map entB))) := by
  simp only [mupdSem, h.midl, key_B, and_self, if_true, h.map, findK_B, BktV_okVal, setB]
  cases lookB k L.bk 0 with
  | none => simp [Sto.put, entB]
  | some r => simp [Sto.put, entB, List.map_set]
theorem LimAt.putm (k : Bs) (b : BktV) : LimAt (σ.put mid (.tup ((setB k b L.bk).map entB))) lid mid { L with bk := setB k b L.bk } := by
  refine ⟨h.lidl, h.midl, h.ne, ?_, by simp⟩
  rw [Sto.put_obj_ne (fun e => h.ne e.symm), h.obj]
  rfl
theorem e46 {n : Nat} (hn : 1 ≤ n) : ciJ PR n 46 [.obj lid 0] σ = some (.bool true, σ) := by
  obtain ⟨n, rfl⟩ : ∃ m, n = m + 1 := ⟨n - 1, by omega⟩
  have h6 := h.ld6
  rw [v46]
  simp -implicitDefEqProofs [D46, h6]
theorem e47 {n : Nat} (hn : 1 ≤ n) (now : Int) : ciJ PR n 47 [.obj lid 0, .int .i64 now] σ = some (.int .i64 (atV L now), σ) := by
  obtain ⟨n, rfl⟩ : ∃ m, n = m + 1 := ⟨n - 1, by omega⟩
  have h3 := h.ld3
  rw [v47]
  unfold atV
  by_cases h1 : 1125899906842624 < now
  · simp -implicitDefEqProofs [D47, h3, h1]
  · simp -implicitDefEqProofs [D47, h3, h1]
theorem e49 {n : Nat} (hn : 1 ≤ n) (hi : L.interval ≠ 0) (b : BktV) (t : Int) : ciJ PR n 49 [.obj lid 0, b.d, .int .i64 t] σ = some ((filledV L b t).d, σ) := by
  obtain ⟨n, rfl⟩ : ∃ m, n = m + 1 := ⟨n - 1, by omega⟩
  have h0 := h.ld0
  have h1 := h.ld1
  rw [v49]
  unfold filledV
  have hN : mnSem [.int .i64 (w64 ((w64 (t - b.clock)).tdiv L.interval)), .int .i64 (w64 (L.burst - b.left))] = some (.int .i64 (fillN L b t)) := by
    simp [mnSem, fillN]
  generalize fillN L b t = N at *
  by_cases he : w64 (b.left + N) = L.burst
  · rw [if_pos he]
    simp -implicitDefEqProofs [D49, h0, h1, hi, hN, he, -mnSem.eq_1, -jwrSem.eq_1, -fldSem.eq_1]
  · rw [if_neg he]
    have heb : (w64 (b.left + N) == L.burst) = false := beq_eq_false_iff_ne.2 he
    simp -implicitDefEqProofs [D49, h0, h1, hi, hN, he, heb, -mnSem.eq_1, -jwrSem.eq_1, -fldSem.eq_1]
end
end Go.Proofs.YtagkgekpfgepoaaDoor
namespace Go.Proofs.YtagkgekpfgepoaaDoor
set_option linter.unusedVariables false
set_option linter.unusedSimpArgs false
set_option maxRecDepth 20000
set_option maxHeartbeats 4000000
open Go
structure KeepO (σ σ' : Sto) (p : Nat → Prop) : Prop where
  nobj : σ.nobj ≤ σ'.nobj
  obj : ∀ i, i < σ.nobj → ¬ p i → σ'.obj i = σ.obj i
theorem KeepO.refl (σ : Sto) (p : Nat → Prop) : KeepO σ σ p := ⟨Nat.le_refl _, fun _ _ _ => rfl⟩
theorem e32 {n : Nat} (hn : 2 ≤ n) {σ : Sto} {lid mid : Nat} {L : LimV} (h : LimAt σ lid mid L) (hi : L.interval ≠ 0) (hb : L.bk.length < 1024) (k : Bs) (now : Int) :
    ∃ σ', ciJ PR n 32 [.obj lid 0, .str k, .int .i64 now] σ = some (.bool (allowV L k now).2, σ') ∧ LimAt σ' lid mid (allowV L k now).1 ∧ σ'.nobj = σ.nobj ∧ ∀ i, i ≠ lid → i ≠ mid → σ'.obj i = σ.obj i := by
  obtain ⟨n, rfl⟩ : ∃ m, n = m + 1 := ⟨n - 1, by omega⟩
  have hne := h.ne
  have h62 := e46 h (n := n) (by omega)
  have h63 := e47 h (n := n) (by omega) now
  have h3 := h.st3 (atV L now)
  have g := h.put { L with time := atV L now } rfl
  unfold allowV
  generalize atV L now = t at *
  generalize hσ1 : σ.put lid (.agg (({ L with time := t } : LimV).row mid)) = σ1 at *
  have q0 := g.ld0
  have q1 := g.ld1
  have q2 := g.ld2
  have q4 := g.ld4
  have q5 := g.ld5
  have q6 := g.ld6
  have hlen := g.len
  have hlook := g.look k
  have s4 := g.st4 (w64 (L.allowed + 1))
  have s5 := g.st5 (w64 (L.denied + 1))
  have p4 := g.put (⟨L.burst, L.interval, t, w64 (L.allowed + 1), L.denied, L.bk⟩ : LimV) rfl
  have p5 := g.put (⟨L.burst, L.interval, t, L.allowed, w64 (L.denied + 1), L.bk⟩ : LimV) rfl
  have n4 := p4.ld6
  have n5 := p5.ld6
  have hlt : ¬ ((1024 : Int) ≤ L.bk.length) := by omega
  have f1 : ∀ d i, i ≠ lid → (σ1.put lid d).obj i = σ.obj i := by
    intro d i hi
    rw [Sto.put_obj_ne hi, ← hσ1, Sto.put_obj_ne hi]
  have f2 : σ1.nobj = σ.nobj := by rw [← hσ1]; rfl
  have main : ∀ (b : BktV) (fk : DVal), fldSem 0 (some 3) [fk] = some b.d → (∀ x : BktV, jwrSem 0 3 [fk, x.d] = some x.d) →
      ∃ σ', L32_1 (cpJ PR n) (ciJ PR n) n (.obj lid 0) (.str k) (.int .i64 t) [.bool false, fk] σ1 = some (.done (.bool (if (filledV L b t).left = 0 then false else true)) σ') ∧
        LimAt σ' lid mid (if (filledV L b t).left = 0 then ⟨L.burst, L.interval, t, L.allowed, w64 (L.denied + 1), setB k ⟨(filledV L b t).left, (filledV L b t).clock, w64 ((filledV L b t).dropped + 1)⟩ L.bk⟩ else ⟨L.burst, L.interval, t, w64 (L.allowed + 1), L.denied, setB k ⟨w64 ((filledV L b t).left - 1), (filledV L b t).clock, 0⟩ L.bk⟩) ∧ σ'.nobj = σ.nobj ∧ ∀ i, i ≠ lid → i ≠ mid → σ'.obj i = σ.obj i := by
    intro b fk hf hj
    have h65 : ciJ PR n 49 [.obj lid 0, b.d, .int .i64 t] σ1 = some ((filledV L b t).d, σ1) := e49 g (n := n) (by omega) hi b t
    generalize filledV L b t = B at *
    have hjB := hj B
    by_cases h0 : B.left = 0
    · simp only [if_pos h0]
      have ux5 := p5.upd k ⟨B.left, B.clock, w64 (B.dropped + 1)⟩
      refine ⟨_, ?_, p5.putm k ⟨B.left, B.clock, w64 (B.dropped + 1)⟩, f2, fun i h1 h2 => ?_⟩
      · simp -implicitDefEqProofs [L32_1, J32_1, hf, h65, hjB, h0, q5, s5, n5, -jwrSem.eq_1, -fldSem.eq_1]
        rw [h0] at ux5
        simp -implicitDefEqProofs [ux5]
      · rw [Sto.put_obj_ne h2, f1 _ i h1]
    · simp only [if_neg h0]
      have hb0 : (B.left == 0) = false := beq_eq_false_iff_ne.2 h0
      have ux4 := p4.upd k ⟨w64 (B.left - 1), B.clock, 0⟩
      refine ⟨_, ?_, p4.putm k ⟨w64 (B.left - 1), B.clock, 0⟩, f2, fun i h1 h2 => ?_⟩
      · simp -implicitDefEqProofs [L32_1, J32_1, hf, h65, hjB, h0, hb0, q4, s4, n4, -jwrSem.eq_1, -fldSem.eq_1]
        simp -implicitDefEqProofs [ux4]
      · rw [Sto.put_obj_ne h2, f1 _ i h1]
  have fin : ∀ (b : BktV) (fk : DVal), fldSem 0 (some 3) [fk] = some b.d → (∀ x : BktV, jwrSem 0 3 [fk, x.d] = some x.d) → D32 (cpJ PR n) (ciJ PR n) n (.obj lid 0) (.str k) (.int .i64 now) σ = L32_1 (cpJ PR n) (ciJ PR n) n (.obj lid 0) (.str k) (.int .i64 t) [.bool false, fk] σ1 →
      ∃ σ', ciJ PR (n + 1) 32 [.obj lid 0, .str k, .int .i64 now] σ = some (.bool (if (filledV L b t).left = 0 then false else true), σ') ∧
        LimAt σ' lid mid (if (filledV L b t).left = 0 then ⟨L.burst, L.interval, t, L.allowed, w64 (L.denied + 1), setB k ⟨(filledV L b t).left, (filledV L b t).clock, w64 ((filledV L b t).dropped + 1)⟩ L.bk⟩ else ⟨L.burst, L.interval, t, w64 (L.allowed + 1), L.denied, setB k ⟨w64 ((filledV L b t).left - 1), (filledV L b t).clock, 0⟩ L.bk⟩) ∧ σ'.nobj = σ.nobj ∧ ∀ i, i ≠ lid → i ≠ mid → σ'.obj i = σ.obj i := by
    intro b fk hf hj he
    obtain ⟨σ', m1, m2, m3, m4⟩ := main b fk hf hj
    refine ⟨σ', ?_, m2, m3, m4⟩
    rw [v32, he, m1]
    rfl
  cases hl : lookB k L.bk 0 with
  | some r =>
    obtain ⟨j, b⟩ := r
    have hlook : lookSem false [.s] (.agg [(.int .i64 0), (.int .i64 0), (.int .i64 0)]) true σ1 [.map mid, .str k] = some (.tup [b.d, .bool true], σ1) := by rw [hlook]; simp only [hl]
    obtain ⟨σ', r1, r2, r3, r4⟩ := fin b b.d rfl (fun x => rfl) (by
      simp -implicitDefEqProofs [D32, h62, h63, h3, q6, hlook, -jwrSem.eq_1, -fldSem.eq_1])
    refine ⟨σ', ?_, ?_, r3, r4⟩
    · rw [r1]
      by_cases h0 : (filledV L b t).left = 0 <;> simp [h0]
    · by_cases h0 : (filledV L b t).left = 0 <;> simp only [h0, if_true, if_false] at r2 ⊢ <;> exact r2
  | none =>
    have hlook : lookSem false [.s] (.agg [(.int .i64 0), (.int .i64 0), (.int .i64 0)]) true σ1 [.map mid, .str k] = some (.tup [(.agg [(.int .i64 0), (.int .i64 0), (.int .i64 0)]), .bool false], σ1) := by rw [hlook]; simp only [hl]
    have z1 : jwrSem 0 3 [(.agg [(.int .i64 0), (.int .i64 0), (.int .i64 0)]), (.agg [(.int .i64 0), (.int .i64 0), (.int .i64 0)])] = some (.agg [(.int .i64 0), (.int .i64 0), (.int .i64 0)]) := rfl
    have z2 : POp.sem (cpJ PR n) [.int .i64 L.burst, .int .i64 t] (.build [(.int .i64 0), (.int .i64 0), (.int .i64 0)] [(0, 1), (1, 1)]) = some (BktV.mk L.burst t 0).d := rfl
    have z3 : jwrSem 0 3 [(.agg [(.int .i64 0), (.int .i64 0), (.int .i64 0)]), (BktV.mk L.burst t 0).d] = some (BktV.mk L.burst t 0).d := rfl
    obtain ⟨σ', r1, r2, r3, r4⟩ := fin ⟨L.burst, t, 0⟩ (BktV.mk L.burst t 0).d rfl (fun x => rfl) (by
      generalize BktV.mk L.burst t 0 = Z at *
      simp -implicitDefEqProofs [D32, L32_0, J32_0, h62, h63, h3, q6, q2, q0, hlen, hlt, hlook, z1, z2, z3, -jwrSem.eq_1, -fldSem.eq_1])
    refine ⟨σ', ?_, ?_, r3, r4⟩
    · rw [r1]
      by_cases h0 : (filledV L ⟨L.burst, t, 0⟩ t).left = 0 <;> simp [h0]
    · by_cases h0 : (filledV L ⟨L.burst, t, 0⟩ t).left = 0 <;> simp only [h0, if_true, if_false] at r2 ⊢ <;> exact r2
end Go.Proofs.YtagkgekpfgepoaaDoor
namespace Go.Proofs.YtagkgekpfgepoaaDoor
set_option linter.unusedVariables false
set_option linter.unusedSimpArgs false
open Go
theorem wr_left {A R new B : List DVal} {o : Nat} (h : o + new.length ≤ A.length) (hw : writeCells A o new = some B) : writeCells (A ++ R) o new = some (B ++ R) := by
  unfold writeCells at hw ⊢
  rw [if_pos h] at hw
  simp only [Option.some.injEq] at hw
  subst hw
  rw [if_pos (by simp; omega), List.take_append_of_le_length (by omega), List.drop_append_of_le_length h]
  simp [List.append_assoc]
theorem wr_right {A R new B : List DVal} {o : Nat} (hw : writeCells R o new = some B) : writeCells (A ++ R) (A.length + o) new = some (A ++ B) := by
  unfold writeCells at hw ⊢
  split at hw
  · rename_i h
    simp only [Option.some.injEq] at hw
    subst hw
    rw [if_pos (by simp; omega), List.take_length_add_append, Nat.add_assoc, List.drop_length_add_append]
    simp [List.append_assoc]
  · cases hw
section
variable {α : Type} {f : α → List DVal} {k : Nat} (hf : ∀ a, (f a).length = k)
include hf
theorem wr_flat {o : Nat} {new : List DVal} (ho : o + new.length ≤ k) : ∀ {l : List α} {i : Nat} {x y : α}, l[i]? = some x → writeCells (f x) o new = some (f y) → writeCells (l.map f).flatten (i * k + o) new = some ((l.set i y).map f).flatten
  | [], i, x, y, h, _ => by simp at h
  | a :: l, 0, x, y, h, hw => by
    simp only [List.getElem?_cons_zero, Option.some.injEq] at h
    subst h
    simp only [List.map_cons, List.flatten_cons, Nat.zero_mul, Nat.zero_add, List.set_cons_zero]
    exact wr_left (by rw [hf]; exact ho) hw
  | a :: l, i + 1, x, y, h, hw => by
    have := wr_right (A := f a) (wr_flat ho (l := l) (i := i) (by simpa using h) hw)
    rw [hf] at this
    simp only [List.map_cons, List.flatten_cons, List.set_cons_succ]
    rw [show (i + 1) * k + o = k + (i * k + o) by rw [Nat.add_mul, Nat.one_mul]; omega]
    exact this
theorem rd_flat {o m : Nat} (ho : o + m ≤ k) : ∀ {l : List α} {i : Nat} {x : α}, l[i]? = some x → readCells (l.map f).flatten (i * k + o) (some m) = readCells (f x) o (some m)
  | [], i, x, h => by simp at h
  | a :: l, 0, x, h => by
    simp only [List.getElem?_cons_zero, Option.some.injEq] at h
    subst h
    have hl := hf a
    simp only [List.map_cons, List.flatten_cons, Nat.zero_mul, Nat.zero_add, readCells]
    rw [if_pos (by simp; omega), if_pos (by omega), List.drop_append_of_le_length (by omega), List.take_append_of_le_length (by simp; omega)]
  | a :: l, i + 1, x, h => by
    have := rd_flat ho (l := l) (i := i) (by simpa using h)
    rw [← this]
    have hl := hf a
    simp only [List.map_cons, List.flatten_cons, readCells]
    rw [show (i + 1) * k + o = (f a).length + (i * k + o) by rw [hl, Nat.add_mul, Nat.one_mul]; omega, List.drop_length_add_append, List.length_append]
    by_cases hc : i * k + o + m ≤ (List.map f l).flatten.length
    · rw [if_pos hc, if_pos (by omega)]
    · rw [if_neg hc, if_neg (by omega)]
theorem snap_flat (hs : ∀ a, sealCells (f a) = some (f a)) : ∀ (l : List α), snapRows k l.length (l.map f).flatten = some (l.map f)
  | [] => rfl
  | a :: l => by
    have hl := hf a
    have h1 : List.take k (f a ++ (List.map f l).flatten) = f a := by rw [← hl, List.take_left]
    have h2 : List.drop k (f a ++ (List.map f l).flatten) = (List.map f l).flatten := by rw [← hl, List.drop_left]
    simp only [List.length_cons, List.map_cons, List.flatten_cons, snapRows]
    rw [if_pos (by simp; omega), h1, h2, hs, snap_flat hs l]
end
theorem rd_flat1 {α : Type} {f : α → List DVal} {k : Nat} (hf : ∀ a, (f a).length = k) {o : Nat} (ho : o < k) : ∀ {l : List α} {i : Nat} {x : α}, l[i]? = some x → readCells (l.map f).flatten (i * k + o) none = readCells (f x) o none
  | [], i, x, h => by simp at h
  | a :: l, 0, x, h => by
    simp only [List.getElem?_cons_zero, Option.some.injEq] at h
    subst h
    have hl := hf a
    simp only [List.map_cons, List.flatten_cons, Nat.zero_mul, Nat.zero_add, readCells]
    rw [List.getElem?_append_left (by omega)]
  | a :: l, i + 1, x, h => by
    have := rd_flat1 hf ho (l := l) (i := i) (by simpa using h)
    rw [← this]
    have hl := hf a
    simp only [List.map_cons, List.flatten_cons, readCells]
    rw [show (i + 1) * k + o = (f a).length + (i * k + o) by rw [hl, Nat.add_mul, Nat.one_mul]; omega, List.getElem?_append_right (by omega), Nat.add_sub_cancel_left]
theorem flat_drop {α : Type} {f : α → List DVal} {k : Nat} (hf : ∀ a, (f a).length = k) : ∀ (p l : List α), ((p ++ l).map f).flatten.drop (p.length * k) = (l.map f).flatten
  | [], l => by simp
  | a :: p, l => by
    have := flat_drop hf p l
    have hl := hf a
    rw [List.cons_append, List.map_cons, List.flatten_cons, List.length_cons, show (p.length + 1) * k = (f a).length + p.length * k by rw [hl, Nat.add_mul, Nat.one_mul]; omega, List.drop_length_add_append, this]
end Go.Proofs.YtagkgekpfgepoaaDoor
namespace Go.Proofs.YtagkgekpfgepoaaDoor
set_option linter.unusedVariables false
set_option linter.unusedSimpArgs false
set_option maxRecDepth 20000
set_option maxHeartbeats 4000000
open Go
def RecV.strip (r : RecV) : RecV := { r with perms := ⟨.nil, r.perms.l⟩ }
theorem same_strip (a b : RecV) : sameV a.strip b.strip = sameV a b := rfl
theorem same_eq {a b c d : RecV} (h1 : a.strip = b.strip) (h2 : c.strip = d.strip) : sameV a c = sameV b d := by
  rw [← same_strip a c, h1, h2, same_strip]
theorem count_eq {a b : RecV} (h : a.strip = b.strip) : a.count = b.count := by
  have := congrArg RecV.count h
  exact this
def recRows (l : List RecV) : List (List DVal) := l.map RecV.row
def RecsAt (σ : Sto) (lg lid mid : Nat) (v : DVal) (l : List RecV) : Prop :=
  (v = .nils ∧ l = []) ∨ ∃ aid pre cap, v = .mslice 9 aid (pre.length * 9) l.length cap ∧ aid < σ.nobj ∧ aid ≠ lg ∧ aid ≠ lid ∧ aid ≠ mid ∧ l ≠ [] ∧ σ.obj aid = .agg ((pre ++ l).map RecV.row).flatten
section
variable {σ : Sto} {lg lid mid : Nat} {v : DVal} {l : List RecV} (h : RecsAt σ lg lid mid v l)
include h
theorem RecsAt.len : lenSlSem [v] = some (.int .i64 l.length) := by
  rcases h with ⟨rfl, rfl⟩ | ⟨aid, pre, cap, rfl, -⟩ <;> rfl
theorem RecsAt.cells : v.cells = [v] := by
  rcases h with ⟨rfl, rfl⟩ | ⟨aid, pre, cap, rfl, -⟩ <;> rfl
theorem RecsAt.okCell : v.okCell = true := by
  rcases h with ⟨rfl, rfl⟩ | ⟨aid, pre, cap, rfl, -⟩ <;> rfl
theorem RecsAt.okVal : v.okVal = true := by
  rcases h with ⟨rfl, rfl⟩ | ⟨aid, pre, cap, rfl, -⟩ <;> rfl
theorem RecsAt.elem {i : Nat} {x : RecV} (hx : l[i]? = some x) : ∃ a off, idxSSem 9 [v, .int .i64 i] = some (.obj a off) ∧ ldOSem σ (some 9) [.obj a off] = some (x.d, σ) ∧ ldOSem σ none [.obj a (off + 8)] = some (.int .i64 x.count, σ) := by
  have hlt : i < l.length := (List.getElem?_eq_some_iff.1 hx).1
  rcases h with ⟨rfl, rfl⟩ | ⟨aid, pre, cap, rfl, h1, -, -, -, -, h2⟩
  · simp at hx
  · have hp : (pre ++ l)[pre.length + i]? = some x := by rw [List.getElem?_append_right (by omega), Nat.add_sub_cancel_left]; exact hx
    refine ⟨aid, pre.length * 9 + i * 9, ?_, ?_, ?_⟩
    · have : (0 : Int) ≤ (i : Int) ∧ (i : Int) < (l.length : Int) := ⟨by omega, by omega⟩
      simp only [idxSSem, true_and, if_pos this, Int.toNat_natCast]
    · have e : pre.length * 9 + i * 9 = (pre.length + i) * 9 + 0 := by rw [Nat.add_mul, Nat.add_zero]
      rw [ld_obj _ h2 h1, e, rd_flat RecV_len (by decide) hp]
      rfl
    · have e : pre.length * 9 + i * 9 + 8 = (pre.length + i) * 9 + 8 := by rw [Nat.add_mul]
      rw [ld_obj _ h2 h1, e, rd_flat1 RecV_len (by decide) hp]
      rfl
end
structure LogV where
  size : Int
  dropped : Int
  removed : Int
  recs : List RecV
  lim : LimV
structure LogAt (σ : Sto) (lg lid mid : Nat) (v : DVal) (L : LogV) : Prop where
  lgl : lg < σ.nobj
  n1 : lg ≠ lid
  n2 : lg ≠ mid
  obj : σ.obj lg = .agg [.int .i64 L.size, v, .int .i64 L.dropped, .int .i64 L.removed, .obj lid 0]
  lim : LimAt σ lid mid L.lim
  recs : RecsAt σ lg lid mid v L.recs
  size : 0 < L.size
section
variable {σ : Sto} {lg lid mid : Nat} {v : DVal} {L : LogV} (h : LogAt σ lg lid mid v L)
include h
theorem LogAt.ld0 : ldOSem σ none [.obj lg 0] = some (.int .i64 L.size, σ) := by rw [ld_obj _ h.obj h.lgl]; rfl
theorem LogAt.ld1 : ldOSem σ none [.obj lg 1] = some (v, σ) := by rw [ld_obj _ h.obj h.lgl]; rfl
theorem LogAt.ld2 : ldOSem σ none [.obj lg 2] = some (.int .i64 L.dropped, σ) := by rw [ld_obj _ h.obj h.lgl]; rfl
theorem LogAt.ld3 : ldOSem σ none [.obj lg 3] = some (.int .i64 L.removed, σ) := by rw [ld_obj _ h.obj h.lgl]; rfl
theorem LogAt.ld4 : ldOSem σ none [.obj lg 4] = some (.obj lid 0, σ) := by rw [ld_obj _ h.obj h.lgl]; rfl
theorem e27 {n : Nat} (hn : 1 ≤ n) : ciJ PR n 27 [.obj lg 0] σ = some (.bool true, σ) := by
  obtain ⟨n, rfl⟩ : ∃ m, n = m + 1 := ⟨n - 1, by omega⟩
  have h0 := h.ld0
  have hs := h.size
  rw [v27]
  simp -implicitDefEqProofs [D27, h0, hs]
theorem e16 {n : Nat} (hn : 2 ≤ n) : ciJ PR n 16 [.obj lg 0] σ = some (.tup [.int .i64 L.dropped, .int .i64 L.removed], σ) := by
  obtain ⟨n, rfl⟩ : ∃ m, n = m + 1 := ⟨n - 1, by omega⟩
  have h1 := e27 h (n := n) (by omega)
  have h2 := h.ld2
  have h3 := h.ld3
  rw [v16]
  simp -implicitDefEqProofs [D16, h1, h2, h3]
theorem e13 {n : Nat} (hn : 2 ≤ n) : ∃ u σ', ciJ PR n 13 [.obj lg 0] σ = some (u, σ') ∧ LogAt σ' lg lid mid .nils { L with recs := [] } ∧ σ'.nobj = σ.nobj ∧ ∀ i, i ≠ lg → σ'.obj i = σ.obj i := by
  obtain ⟨n, rfl⟩ : ∃ m, n = m + 1 := ⟨n - 1, by omega⟩
  have h1 := e27 h (n := n) (by omega)
  have hst : stOSem σ 1 [.obj lg 1, .nils] = some (.undef, σ.put lg (.agg [.int .i64 L.size, .nils, .int .i64 L.dropped, .int .i64 L.removed, .obj lid 0])) := by
    rw [st_obj (k := 1) h.obj h.lgl rfl rfl]; rfl
  refine ⟨.tup [], σ.put lg (.agg [.int .i64 L.size, .nils, .int .i64 L.dropped, .int .i64 L.removed, .obj lid 0]), ?_, ?_, ?_, ?_⟩
  · rw [v13]
    simp -implicitDefEqProofs [D13, h1, hst]
  · refine ⟨h.lgl, h.n1, h.n2, by simp, ⟨h.lim.lidl, h.lim.midl, h.lim.ne, ?_, ?_⟩, .inl ⟨rfl, rfl⟩, h.size⟩
    · rw [Sto.put_obj_ne (fun e => h.n1 e.symm), h.lim.obj]
    · rw [Sto.put_obj_ne (fun e => h.n2 e.symm), h.lim.map]
  · rfl
  · exact fun i hi => Sto.put_obj_ne hi
end
end Go.Proofs.YtagkgekpfgepoaaDoor
namespace Go.Proofs.YtagkgekpfgepoaaDoor
set_option linter.unusedVariables false
set_option linter.unusedSimpArgs false
set_option maxRecDepth 20000
set_option maxHeartbeats 4000000
open Go
def findR (r : RecV) : List RecV → Nat → Int
  | [], _ => -1
  | x :: l, i => if sameV x r then (i : Int) else findR r l (i + 1)
theorem isnil_strs (p : Sl Bs) : ∃ b, isnilSem 0 false [strs p] = some (.bool b) ∧ (b = true → p.l = []) := by
  obtain ⟨z, l⟩ := p
  cases z <;> cases l <;> first | exact ⟨true, rfl, fun _ => rfl⟩ | exact ⟨false, rfl, fun h => by cases h⟩
theorem e42 {n : Nat} (hn : 1 ≤ n) (p : Sl Bs) (hp : p.l.length ≤ 1000000) : ∃ u z, cpJ PR n 42 [strs p] = some u ∧ u.stale = strs ⟨z, p.l⟩ := by
  obtain ⟨n, rfl⟩ : ∃ m, n = m + 1 := ⟨n - 1, by omega⟩
  obtain ⟨b, hb, hb2⟩ := isnil_strs p
  rw [u42]
  cases b with
  | true =>
    have := hb2 rfl
    refine ⟨.nils, .nil, ?_, by rw [this]; rfl⟩
    simp -implicitDefEqProofs [D42, hb]
  | false =>
    obtain ⟨v, σ, a1, o1⟩ := own_app (σ := emptySto) (x := strs p) (new := p.l.map rowS) (own_lit emptySto 1 []) (elems_strs _) (szOk_strs _) (by simp; omega)
    obtain ⟨u, hu, hf⟩ := own_back o1
    obtain ⟨z, hz⟩ := fresh_stale hf
    refine ⟨u, z, ?_, hz⟩
    have hv := own_okVal o1
    simp -implicitDefEqProofs [D42, hb, a1, hu, hv]
theorem e28 {n : Nat} (hn : 2 ≤ n) (r : RecV) (hp : r.perms.l.length ≤ 1000000) : ∃ z, cpJ PR n 28 [r.d] = some ({ r with perms := ⟨z, r.perms.l⟩ } : RecV).d := by
  obtain ⟨n, rfl⟩ : ∃ m, n = m + 1 := ⟨n - 1, by omega⟩
  obtain ⟨u, z, h1, h2⟩ := e42 (n := n) (by omega) r.perms hp
  refine ⟨z, ?_⟩
  have h3 := RecV_set_perms r ⟨z, r.perms.l⟩
  rw [u28]
  generalize hR : ({ r with perms := ⟨z, r.perms.l⟩ } : RecV) = R at *
  simp -implicitDefEqProofs [D28, h1, h2, h3, -jwrSem.eq_1, -fldSem.eq_1]
  rw [hR]
def nameV (r : RecV) : Bs := textB { r with time := 0, seq := 0, count := 1 }
theorem ok_name {r : RecV} (ok : RecOk r) : RecOk { r with time := 0, seq := 0, count := 1 } :=
  ⟨⟨by simp, by simp⟩, ⟨by simp, by simp⟩, ⟨by simp, by simp⟩, ok.src, ok.tgt, ok.cls, ok.some, ok.few, ok.perms⟩
theorem e33 {n : Nat} (hn : 11 ≤ n) (r : RecV) (ok : RecOk r) : cpJ PR n 33 [r.d] = some (.str (nameV r)) := by
  obtain ⟨n, rfl⟩ : ∃ m, n = m + 1 := ⟨n - 1, by omega⟩
  have hl := (text_len (ok_name ok)).1
  have few := ok.few
  have h1 := e39 (n := n) (by omega) { r with time := 0, seq := 0, count := 1 } ⟨by simp, by simp, by simp, by simp, by simp, by simp⟩ (by show r.perms.l.length ≤ _; omega) (by omega)
  have h1 : cpJ PR n 39 [({ r with time := 0, seq := 0, count := 1 } : RecV).d] = some (.str (nameV r)) := h1
  rw [u33]
  generalize nameV r = N at *
  simp -implicitDefEqProofs [D33, h1, -jwrSem.eq_1, -fldSem.eq_1]
theorem e35 {n : Nat} {σ : Sto} {a : Nat} {r : RecV} (ha : a < σ.nobj) (ho : σ.obj a = .agg r.row) (x : RecV) (hx : x.perms.l.length < 1000000) (hn : x.perms.l.length + 5 ≤ n) : ciJ PR n 35 [x.d, .obj a 0] σ = some (.bool (sameV x r), σ) := by
  obtain ⟨n, rfl⟩ : ∃ m, n = m + 1 := ⟨n - 1, by omega⟩
  have h1 : ldOSem σ (some 9) [.obj a 0] = some (r.d, σ) := by rw [ld_obj _ ho ha]; rfl
  have h2 := e18 (n := n) x r hx (by omega)
  rw [v35]
  simp -implicitDefEqProofs [D35, h1, h2, -jwrSem.eq_1, -fldSem.eq_1]
theorem l34 {n : Nat} {σ : Sto} {a : Nat} {r : RecV} (ha : a < σ.nobj) (ho : σ.obj a = .agg r.row) {lg lid mid : Nat} {v : DVal} {l : List RecV} (h : RecsAt σ lg lid mid v l) (hl : l.length < 1000000) (hp : ∀ x ∈ l, x.perms.l.length < 1000000) (hn : 1000100 ≤ n) (q : DVal) :
    ∀ (k i m : Nat), l.length = i + k → k < m → iterJ 0 (L34_0 (cpJ PR n) (ciJ PR n) n v (.func 35 [.obj a 0]) (.int .i64 l.length)) m [.int .i64 i, q] σ = some (.done (.int .i64 (findR r (l.drop i) i)) σ) := by
  intro k
  induction k with
  | zero =>
    intro i m hi hm
    obtain ⟨m, rfl⟩ : ∃ q, m = q + 1 := ⟨m - 1, by omega⟩
    have hi' : ¬ (i < l.length) := by omega
    refine iterJ_done ?_
    rw [List.drop_eq_nil_of_le (by omega)]
    simp -implicitDefEqProofs [L34_0, B34_0, hi', findR]
  | succ k ih =>
    intro i m hi hm
    obtain ⟨m, rfl⟩ : ∃ q, m = q + 1 := ⟨m - 1, by omega⟩
    have hlt : i < l.length := by omega
    obtain ⟨x, hx⟩ := get_some hlt
    obtain ⟨b, off, g1, g2, g3⟩ := h.elem hx
    have hw : IntKind.i64.wrap ((i : Int) + 1) = ((i + 1 : Nat) : Int) := wrap_succ (by omega)
    have h47 := e35 (n := n) ha ho x (hp x (List.mem_of_getElem? hx)) (by have := hp x (List.mem_of_getElem? hx); omega)
    rw [drop_get hx, findR]
    cases hs : sameV x r with
    | true =>
      rw [hs] at h47
      refine iterJ_done ?_
      simp -implicitDefEqProofs [L34_0, B34_0, hlt, g1, g2, h47]
    | false =>
      rw [hs] at h47
      rw [iterJ_next' (vs' := [.int .i64 ((i + 1 : Nat) : Int), q]) (σ' := σ), ih (i + 1) m (by omega) (by omega)]
      · simp
      · simp -implicitDefEqProofs [L34_0, B34_0, hlt, g1, g2, h47, hw]
theorem e34 {n : Nat} {σ : Sto} {a : Nat} {r : RecV} (ha : a < σ.nobj) (ho : σ.obj a = .agg r.row) {lg lid mid : Nat} {v : DVal} {l : List RecV} (h : RecsAt σ lg lid mid v l) (hl : l.length < 1000000) (hp : ∀ x ∈ l, x.perms.l.length < 1000000) (hn : 1000101 ≤ n) :
    ciJ PR n 34 [v, .func 35 [.obj a 0]] σ = some (.int .i64 (findR r l 0), σ) := by
  obtain ⟨n, rfl⟩ : ∃ m, n = m + 1 := ⟨n - 1, by omega⟩
  have h1 := l34 (n := n) ha ho h hl hp (by omega) (.int .i64 0) l.length 0 n (by omega) (by omega)
  have h2 := h.len
  simp only [Int.natCast_zero, List.drop_zero] at h1
  rw [v34]
  simp -implicitDefEqProofs [D34, h1, h2]
structure HasR (σ : Sto) (id : Nat) (l : List RecV) : Prop where
  lt : id < σ.nobj
  obj : σ.obj id = .agg (l.map RecV.row).flatten
section
variable {σ : Sto} {id : Nat} {l : List RecV} (h : HasR σ id l) {i : Nat} {x : RecV} {cap : Option Nat}
include h
theorem HasR.snap : snapM σ 9 id 0 l.length = some (l.map RecV.row) := by
  simp only [snapM, h.lt, if_true, h.obj, List.drop_zero]
  exact snap_flat RecV_len RecV_cells l
theorem HasR.ld (hx : l[i]? = some x) : ldOSem σ (some 9) [.obj id (i * 9)] = some (x.d, σ) := by
  rw [ld_obj _ h.obj h.lt, show i * 9 = i * 9 + 0 from rfl, rd_flat RecV_len (by decide) hx]
  rfl
theorem HasR.ldc (hx : l[i]? = some x) : ldOSem σ none [.obj id (i * 9 + 8)] = some (.int .i64 x.count, σ) := by
  rw [ld_obj _ h.obj h.lt, rd_flat1 RecV_len (by decide) hx]
  rfl
theorem HasR.st (hx : l[i]? = some x) (c : Int) : ∃ σ', stOSem σ 1 [.obj id (i * 9 + 8), .int .i64 c] = some (.undef, σ') ∧ HasR σ' id (l.set i { x with count := c }) := by
  have hw := wr_flat RecV_len (o := 8) (new := [.int .i64 c]) (by simp) hx (y := { x with count := c }) rfl
  refine ⟨σ.put id (.agg ((l.set i { x with count := c }).map RecV.row).flatten), ?_, ⟨h.lt, by simp⟩⟩
  rw [st_obj (k := 1) h.obj h.lt rfl rfl]
  show (writeCells _ _ [.int .i64 c]).map _ = _
  rw [hw]
  rfl
theorem HasR.push (hl : l.length ≤ 1000000) (y : RecV) : ∃ σ', appXSem 9 σ [.mslice 9 id 0 l.length cap, .slice false 1 9 [y.row]] = some (.mslice 9 σ.nobj 0 (l.length + 1) none, σ') ∧ HasR σ' σ.nobj (l ++ [y]) ∧ σ'.nobj = σ.nobj + 1 ∧ ∀ i, i < σ.nobj → i ≠ id → σ'.obj i = σ.obj i := by
  have hlen : (l.map RecV.row).flatten.length = l.length * 9 := by
    have : ∀ (l : List RecV), (l.map RecV.row).flatten.length = l.length * 9 := by
      intro l
      induction l with
      | nil => rfl
      | cons a l ih => rw [List.map_cons, List.flatten_cons, List.length_append, ih, RecV_len, List.length_cons]; omega
    exact this l
  have hmax : l.length + 1 ≤ maxAppend := by unfold maxAppend; omega
  refine ⟨{ nobj := σ.nobj + 1, obj := upd (upd σ.obj id .undef) σ.nobj (.agg ((l.map RecV.row).flatten ++ [y.row].flatten)), ntok := σ.ntok, fr := σ.fr, ora := σ.ora }, ?_, ⟨Nat.lt_succ_self _, by simp [upd]⟩, rfl, fun i hi hne => ?_⟩
  · simp [appXSem, elemsOf, h.obj, h.lt, DVal.szOk, hlen, hmax]
  · simp only [upd]; rw [if_neg (by omega), if_neg hne]
end
theorem RecsAt.keep0 {σ σ' : Sto} {lg lid mid : Nat} {v : DVal} {l : List RecV} (h : RecsAt σ lg lid mid v l) (k : KeepO σ σ' (fun _ => False)) : RecsAt σ' lg lid mid v l := by
  have kn := k.nobj
  rcases h with h | ⟨aid, pre, cap, h1, h2, h3, h4, h5, h6, h7⟩
  · exact .inl h
  · exact .inr ⟨aid, pre, cap, h1, by omega, h3, h4, h5, h6, by rw [k.obj _ h2 (fun h => h)]; exact h7⟩
theorem LogAt.keep0 {σ σ' : Sto} {lg lid mid : Nat} {v : DVal} {L : LogV} (a : LogAt σ lg lid mid v L) (k : KeepO σ σ' (fun _ => False)) : LogAt σ' lg lid mid v L := by
  have kn := k.nobj
  exact ⟨by have := a.lgl; omega, a.n1, a.n2, by rw [k.obj _ a.lgl (fun h => h)]; exact a.obj, ⟨by have := a.lim.lidl; omega, by have := a.lim.midl; omega, a.lim.ne, by rw [k.obj _ a.lim.lidl (fun h => h)]; exact a.lim.obj, by rw [k.obj _ a.lim.midl (fun h => h)]; exact a.lim.map⟩, a.recs.keep0 k, a.size⟩
def MR (σ τ : Sto) (u : DVal) (c : List RecV) : Prop := (u = .nils ∧ c = []) ∨ ∃ id, σ.nobj ≤ id ∧ u = .mslice 9 id 0 c.length none ∧ c ≠ [] ∧ HasR τ id c
theorem MR.okVal {σ τ : Sto} {u : DVal} {c : List RecV} (h : MR σ τ u c) : u.okVal = true := by
  rcases h with ⟨rfl, -⟩ | ⟨id, -, rfl, -⟩ <;> rfl
theorem MR.push {σ τ : Sto} {u : DVal} {c : List RecV} (h : MR σ τ u c) (hk : KeepO σ τ (fun _ => False)) (hl : c.length ≤ 1000000) (y : RecV) : ∃ u' τ', appXSem 9 τ [u, .slice false 1 9 [y.row]] = some (u', τ') ∧ MR σ τ' u' (c ++ [y]) ∧ KeepO σ τ' (fun _ => False) := by
  have kn := hk.nobj
  rcases h with ⟨rfl, rfl⟩ | ⟨id, h1, rfl, h0, h2⟩
  · refine ⟨_, τ.new (.agg ([y].map RecV.row).flatten), rfl, .inr ⟨τ.nobj, kn, rfl, by simp, by simp, Sto.new_obj⟩, ⟨by simp; omega, fun i hi _ => ?_⟩⟩
    rw [Sto.new_obj_ne (by omega)]
    exact hk.obj i hi (fun h => h)
  · obtain ⟨τ', a1, a2, a3, a4⟩ := h2.push (cap := none) hl y
    refine ⟨_, τ', a1, .inr ⟨τ.nobj, kn, by simp, by simp, a2⟩, ⟨by omega, fun i hi _ => ?_⟩⟩
    rw [a4 i (by omega) (by omega)]
    exact hk.obj i hi (fun h => h)
theorem l12 {n : Nat} {σ : Sto} {lg lid mid : Nat} {v : DVal} {l : List RecV} (h : RecsAt σ lg lid mid v l) (hl : l.length < 1000000) (hp : ∀ x ∈ l, x.perms.l.length < 1000000) (hn : 10 ≤ n) :
    ∀ (k i m : Nat) (τ : Sto) (u : DVal) (c : List RecV), l.length = i + k → k < m → KeepO σ τ (fun _ => False) → MR σ τ u c → c.map RecV.strip = (l.take i).map RecV.strip →
    ∃ u' τ' c', iterJ 0 (L12_0 (cpJ PR n) (ciJ PR n) n v (.int .i64 l.length)) m [.int .i64 i, u] τ = some (.done u' τ') ∧ KeepO σ τ' (fun _ => False) ∧ MR σ τ' u' c' ∧ c'.map RecV.strip = l.map RecV.strip := by
  intro k
  induction k with
  | zero =>
    intro i m τ u c hi hm hs ho hc
    obtain ⟨m, rfl⟩ : ∃ q, m = q + 1 := ⟨m - 1, by omega⟩
    have hi' : ¬ (i < l.length) := by omega
    have hv := ho.okVal
    refine ⟨u, τ, c, iterJ_done ?_, hs, ho, by rw [hc, List.take_of_length_le (by omega)]⟩
    simp -implicitDefEqProofs [L12_0, B12_0, hi', hv]
  | succ k ih =>
    intro i m τ u c hi hm hs ho hc
    obtain ⟨m, rfl⟩ : ∃ q, m = q + 1 := ⟨m - 1, by omega⟩
    have hlt : i < l.length := by omega
    obtain ⟨x, hx⟩ := get_some hlt
    obtain ⟨b, off, g1, g2, g3⟩ := (h.keep0 hs).elem hx
    have hw : IntKind.i64.wrap ((i : Int) + 1) = ((i + 1 : Nat) : Int) := wrap_succ (by omega)
    obtain ⟨z, h48⟩ := e28 (n := n) (by omega) x (by have := hp x (List.mem_of_getElem? hx); omega)
    have hcl : c.length = i := by
      have := congrArg List.length hc
      simp at this
      omega
    have hsl := RecV_slice (cpJ PR n) { x with perms := ⟨z, x.perms.l⟩ }
    obtain ⟨u', τ', a1, o1, s1⟩ := ho.push hs (by omega) { x with perms := ⟨z, x.perms.l⟩ }
    obtain ⟨ux2, τ2, c2, r1, r2, r3, r4⟩ := ih (i + 1) m τ' u' (c ++ [{ x with perms := ⟨z, x.perms.l⟩ }]) (by omega) (by omega) s1 o1 (by rw [take_get hx, List.map_append, List.map_append, hc]; rfl)
    refine ⟨ux2, τ2, c2, ?_, r2, r3, r4⟩
    rw [← r1]
    refine iterJ_next' ?_
    generalize ({ x with perms := ⟨z, x.perms.l⟩ } : RecV) = X at *
    simp -implicitDefEqProofs [L12_0, B12_0, hlt, g1, g2, h48, hsl, a1, hw, -jwrSem.eq_1, -fldSem.eq_1]
theorem e12 {n : Nat} {σ : Sto} {lg lid mid : Nat} {v : DVal} {L : LogV} (h : LogAt σ lg lid mid v L) (hl : L.recs.length < 1000000) (hp : ∀ x ∈ L.recs, x.perms.l.length < 1000000) (hn : 1000101 ≤ n) :
    ∃ u σ' c, ciJ PR n 12 [.obj lg 0] σ = some (u, σ') ∧ KeepO σ σ' (fun _ => False) ∧ MR σ σ' u c ∧ c.map RecV.strip = L.recs.map RecV.strip := by
  obtain ⟨n, rfl⟩ : ∃ m, n = m + 1 := ⟨n - 1, by omega⟩
  obtain ⟨u, τ, c, h1, h2, h3, h4⟩ := l12 (n := n) h.recs hl hp (by omega) L.recs.length 0 n σ .nils [] (by omega) (by omega) (.refl _ _) (.inl ⟨rfl, rfl⟩) rfl
  have g1 := e27 h (n := n) (by omega)
  have g2 := h.ld1
  have g3 := h.recs.len
  simp only [Int.natCast_zero] at h1
  refine ⟨u, τ, c, ?_, h2, h3, h4⟩
  rw [v12]
  simp -implicitDefEqProofs [D12, g1, g2, g3, h1]
end Go.Proofs.YtagkgekpfgepoaaDoor
namespace Go.Proofs.YtagkgekpfgepoaaDoor
set_option linter.unusedVariables false
set_option linter.unusedSimpArgs false
set_option maxRecDepth 20000
set_option maxHeartbeats 4000000
open Go
theorem RecsAt.new {σ : Sto} {lg lid mid : Nat} {v : DVal} {l : List RecV} (h : RecsAt σ lg lid mid v l) (d : DVal) : RecsAt (σ.new d) lg lid mid v l := by
  rcases h with h | ⟨aid, pre, cap, h1, h2, h3, h4, h5, h6, h7⟩
  · exact .inl h
  · exact .inr ⟨aid, pre, cap, h1, by rw [Sto.new_nobj]; omega, h3, h4, h5, h6, by rw [Sto.new_obj_ne h2]; exact h7⟩
theorem LimAt.new {σ : Sto} {lid mid : Nat} {L : LimV} (h : LimAt σ lid mid L) (d : DVal) : LimAt (σ.new d) lid mid L :=
  ⟨by rw [Sto.new_nobj]; have := h.lidl; omega, by rw [Sto.new_nobj]; have := h.midl; omega, h.ne, by rw [Sto.new_obj_ne h.lidl]; exact h.obj, by rw [Sto.new_obj_ne h.midl]; exact h.map⟩
theorem LogAt.new {σ : Sto} {lg lid mid : Nat} {v : DVal} {L : LogV} (h : LogAt σ lg lid mid v L) (d : DVal) : LogAt (σ.new d) lg lid mid v L :=
  ⟨by rw [Sto.new_nobj]; have := h.lgl; omega, h.n1, h.n2, by rw [Sto.new_obj_ne h.lgl]; exact h.obj, h.lim.new d, h.recs.new d, h.size⟩
theorem RecsAt.put {σ : Sto} {lg lid mid : Nat} {v : DVal} {l : List RecV} (h : RecsAt σ lg lid mid v l) {i : Nat} (hi : i = lg ∨ i = lid ∨ i = mid) (d : DVal) : RecsAt (σ.put i d) lg lid mid v l := by
  rcases h with h | ⟨aid, pre, cap, h1, h2, h3, h4, h5, h6, h7⟩
  · exact .inl h
  · exact .inr ⟨aid, pre, cap, h1, h2, h3, h4, h5, h6, by rw [Sto.put_obj_ne (by rcases hi with rfl | rfl | rfl <;> assumption)]; exact h7⟩
def limOk (b i : Int) : Bool := decide (1 ≤ b) && decide (b ≤ 1000000) && decide (1 ≤ i) && decide (i ≤ 1000000)
def newOk (s b i : Int) : Bool := limOk b i && decide (1 ≤ s) && decide (s ≤ 256)
def limNew (b i : Int) : LimV := ⟨b, i, 0, 0, 0, []⟩
theorem e26 {n : Nat} (hn : 1 ≤ n) (σ : Sto) (b i : Int) : ciJ PR n 26 [.int .i64 b, .int .i64 i, .int .i64 1024] σ = some (if limOk b i then (.obj (σ.nobj + 1) 0, (σ.new (.tup [])).new (.agg ((limNew b i).row σ.nobj))) else (.nilp, σ)) := by
  obtain ⟨n, rfl⟩ : ∃ m, n = m + 1 := ⟨n - 1, by omega⟩
  rw [v26]
  have hm : mkmapSem σ [] = some (.map σ.nobj, σ.new (.tup [])) := rfl
  have hbx : boxOSem (σ.new (.tup [])) [.agg ((limNew b i).row σ.nobj)] = some (.obj (σ.nobj + 1) 0, (σ.new (.tup [])).new (.agg ((limNew b i).row σ.nobj))) := rfl
  have hbl : POp.sem (cpJ PR n) [.int .i64 b, .int .i64 i, .int .i64 1024, .map σ.nobj] (.build [(.int .i64 0), (.int .i64 0), (.int .i64 0), (.int .i64 0), (.int .i64 0), (.int .i64 0), .nilm] [(0, 1), (1, 1), (2, 1), (6, 1)]) = some (.agg ((limNew b i).row σ.nobj)) := rfl
  generalize (.agg ((limNew b i).row σ.nobj) : DVal) = A at *
  by_cases h1 : b < 1
  · have : limOk b i = false := by simp [limOk]; omega
    simp -implicitDefEqProofs [D26, h1, this]
  by_cases h2 : 1000000 < b
  · have : limOk b i = false := by simp [limOk]; omega
    simp -implicitDefEqProofs [D26, h1, h2, this]
  by_cases h3 : i < 1
  · have : limOk b i = false := by simp [limOk]; omega
    simp -implicitDefEqProofs [D26, h1, h2, h3, this]
  by_cases h4 : 1000000 < i
  · have : limOk b i = false := by simp [limOk]; omega
    simp -implicitDefEqProofs [D26, h1, h2, h3, h4, this]
  have : limOk b i = true := by simp [limOk]; omega
  simp -implicitDefEqProofs [D26, h1, h2, h3, h4, this, hm, hbl, hbx]
theorem e10 {n : Nat} (hn : 2 ≤ n) (σ : Sto) (s b i : Int) :
    (newOk s b i = true ∧ ∃ σ', ciJ PR n 10 [.int .i64 s, .int .i64 b, .int .i64 i] σ = some (.obj (σ.nobj + 2) 0, σ') ∧ LogAt σ' (σ.nobj + 2) (σ.nobj + 1) σ.nobj .nils ⟨s, 0, 0, [], limNew b i⟩ ∧ KeepO σ σ' (fun _ => False)) ∨
    (newOk s b i = false ∧ ∃ σ', ciJ PR n 10 [.int .i64 s, .int .i64 b, .int .i64 i] σ = some (.nilp, σ') ∧ KeepO σ σ' (fun _ => False)) := by
  obtain ⟨n, rfl⟩ : ∃ m, n = m + 1 := ⟨n - 1, by omega⟩
  have h41 := e26 (n := n) (by omega) σ b i
  cases hL : limOk b i with
  | false =>
    have : newOk s b i = false := by simp [newOk, hL]
    refine .inr ⟨this, σ, ?_, .refl _ _⟩
    rw [hL] at h41
    simp only [Bool.false_eq_true, if_false] at h41
    rw [v10]
    by_cases h1 : s < 1
    · simp -implicitDefEqProofs [D10, h41, h1]
    by_cases h2 : 256 < s
    · simp -implicitDefEqProofs [D10, h41, h1, h2]
    simp -implicitDefEqProofs [D10, h41, h1, h2]
  | true =>
    rw [hL] at h41
    simp only [if_true] at h41
    have k2 : ∀ d : DVal, KeepO σ ((σ.new (.tup [])).new d) (fun _ => False) := fun d => ⟨by simp; omega, fun j hj _ => by rw [Sto.new_obj_ne (by simp; omega), Sto.new_obj_ne hj]⟩
    by_cases h1 : s < 1
    · have : newOk s b i = false := by simp [newOk]; omega
      refine .inr ⟨this, _, ?_, k2 (.agg ((limNew b i).row σ.nobj))⟩
      rw [v10]
      simp -implicitDefEqProofs [D10, h41, h1]
    by_cases h2 : 256 < s
    · have : newOk s b i = false := by simp [newOk]; omega
      refine .inr ⟨this, _, ?_, k2 (.agg ((limNew b i).row σ.nobj))⟩
      rw [v10]
      simp -implicitDefEqProofs [D10, h41, h1, h2]
    have : newOk s b i = true := by simp [newOk, hL]; omega
    refine .inl ⟨this, ((σ.new (.tup [])).new (.agg ((limNew b i).row σ.nobj))).new (.agg [.int .i64 s, .nils, .int .i64 0, .int .i64 0, .obj (σ.nobj + 1) 0]), ?_, ?_, ?_⟩
    · have hbl : POp.sem (cpJ PR n) [.int .i64 s, .obj (σ.nobj + 1) 0] (.build [(.int .i64 0), .nils, (.int .i64 0), (.int .i64 0), .nilp] [(0, 1), (4, 1)]) = some (.agg [.int .i64 s, .nils, .int .i64 0, .int .i64 0, .obj (σ.nobj + 1) 0]) := rfl
      have hbx : boxOSem ((σ.new (.tup [])).new (.agg ((limNew b i).row σ.nobj))) [.agg [.int .i64 s, .nils, .int .i64 0, .int .i64 0, .obj (σ.nobj + 1) 0]] = some (.obj (σ.nobj + 2) 0, ((σ.new (.tup [])).new (.agg ((limNew b i).row σ.nobj))).new (.agg [.int .i64 s, .nils, .int .i64 0, .int .i64 0, .obj (σ.nobj + 1) 0])) := rfl
      rw [v10]
      generalize ((σ.new (.tup [])).new (.agg ((limNew b i).row σ.nobj))) = τ at *
      generalize (.agg [.int .i64 s, .nils, .int .i64 0, .int .i64 0, .obj (σ.nobj + 1) 0] : DVal) = A at *
      simp -implicitDefEqProofs [D10, h41, h1, h2, hbl, hbx]
    · have f1 : ((σ.new (.tup [])).new (.agg ((limNew b i).row σ.nobj))).nobj = σ.nobj + 2 := rfl
      have f0 : (σ.new (.tup [])).nobj = σ.nobj + 1 := rfl
      refine ⟨by rw [Sto.new_nobj, f1]; omega, by omega, by omega, ?_, ⟨by rw [Sto.new_nobj, f1]; omega, by rw [Sto.new_nobj, f1]; omega, by omega, ?_, ?_⟩, .inl ⟨rfl, rfl⟩, by show 0 < s; omega⟩
      · have := Sto.new_obj (σ := ((σ.new (.tup [])).new (.agg ((limNew b i).row σ.nobj)))) (d := .agg [.int .i64 s, .nils, .int .i64 0, .int .i64 0, .obj (σ.nobj + 1) 0])
        rw [f1] at this
        exact this
      · rw [Sto.new_obj_ne (by rw [f1]; omega)]
        have := Sto.new_obj (σ := (σ.new (.tup []))) (d := .agg ((limNew b i).row σ.nobj))
        rw [f0] at this
        exact this
      · rw [Sto.new_obj_ne (by rw [f1]; omega), Sto.new_obj_ne (by rw [f0]; omega)]
        exact Sto.new_obj
    · exact ⟨by simp; omega, fun j hj _ => by rw [Sto.new_obj_ne (by simp; omega), Sto.new_obj_ne (by simp; omega), Sto.new_obj_ne hj]⟩
def arr (v : DVal) (i : Nat) : Prop := ∃ sz off len cap, v = .mslice sz i off len cap
theorem RecsAt.bump {σ : Sto} {lg lid mid : Nat} {v : DVal} {l : List RecV} (h : RecsAt σ lg lid mid v l) {i : Nat} {x : RecV} (hx : l[i]? = some x) :
    ∃ a off, idxSSem 9 [v, .int .i64 i] = some (.obj a off) ∧ ldOSem σ none [.obj a (off + 8)] = some (.int .i64 x.count, σ) ∧ arr v a ∧ a ≠ lg ∧ a ≠ lid ∧ a ≠ mid ∧
      ∀ c : Int, ∃ d, stOSem σ 1 [.obj a (off + 8), .int .i64 c] = some (.undef, σ.put a d) ∧ RecsAt (σ.put a d) lg lid mid v (l.set i { x with count := c }) := by
  have hlt : i < l.length := (List.getElem?_eq_some_iff.1 hx).1
  rcases h with ⟨rfl, rfl⟩ | ⟨aid, pre, cap, rfl, h1, n1, n2, n3, hne, h2⟩
  · simp at hx
  · have hp : (pre ++ l)[pre.length + i]? = some x := by rw [List.getElem?_append_right (by omega), Nat.add_sub_cancel_left]; exact hx
    have e : pre.length * 9 + i * 9 + 8 = (pre.length + i) * 9 + 8 := by rw [Nat.add_mul]
    refine ⟨aid, pre.length * 9 + i * 9, ?_, ?_, ⟨_, _, _, _, rfl⟩, n1, n2, n3, fun c => ?_⟩
    · have : (0 : Int) ≤ (i : Int) ∧ (i : Int) < (l.length : Int) := ⟨by omega, by omega⟩
      simp only [idxSSem, true_and, if_pos this, Int.toNat_natCast]
    · rw [ld_obj _ h2 h1, e, rd_flat1 RecV_len (by decide) hp]
      rfl
    · have hw := wr_flat RecV_len (o := 8) (new := [.int .i64 c]) (by simp) hp (y := { x with count := c }) rfl
      rw [List.set_append_right _ _ (by omega), Nat.add_sub_cancel_left] at hw
      refine ⟨.agg ((pre ++ l.set i { x with count := c }).map RecV.row).flatten, ?_, .inr ⟨aid, pre, cap, by rw [List.length_set], h1, n1, n2, n3, ?_, by simp⟩⟩
      · rw [st_obj (k := 1) h2 h1 rfl rfl, e]
        show (writeCells _ _ [.int .i64 c]).map _ = _
        rw [hw]
        rfl
      · intro hh
        have := congrArg List.length hh
        rw [List.length_set, List.length_nil] at this
        omega
theorem RecsAt.push {σ : Sto} {lg lid mid : Nat} {v : DVal} {l : List RecV} (h : RecsAt σ lg lid mid v l) (hl : l.length < 100000) (g1 : lg < σ.nobj) (g2 : lid < σ.nobj) (g3 : mid < σ.nobj) (X : RecV) :
    ∃ vx1 d, slcVSem 9 false true true [v, .int .i64 l.length, .int .i64 l.length] = some vx1 ∧ appMSem 9 σ [vx1, .slice false 1 9 [X.row]] = some (.mslice 9 σ.nobj 0 (l.length + 1) none, σ.new d) ∧ RecsAt (σ.new d) lg lid mid (.mslice 9 σ.nobj 0 (l.length + 1) none) (l ++ [X]) := by
  have hR : RecsAt (σ.new (.agg ((l ++ [X]).map RecV.row).flatten)) lg lid mid (.mslice 9 σ.nobj 0 (l.length + 1) none) (l ++ [X]) :=
    .inr ⟨σ.nobj, [], none, by simp, by simp, by omega, by omega, by omega, by simp, by simp⟩
  have hm : l.length + 1 ≤ maxAppend := by unfold maxAppend; omega
  rcases h with ⟨rfl, rfl⟩ | ⟨aid, pre, cap, rfl, h1, n1, n2, n3, hne, h2⟩
  · refine ⟨.nils, _, by simp [slcVSem, bounds], ?_, hR⟩
    simp [appMSem, elemsM, elemsOf, DVal.szOk, tightOf, maxAppend, Sto.new]
  · have hlen : 0 < l.length := List.length_pos_iff.2 hne
    have hs : snapM σ 9 aid (pre.length * 9) l.length = some (l.map RecV.row) := by
      simp only [snapM, h1, if_true, h2]
      rw [flat_drop RecV_len, snap_flat RecV_len RecV_cells]
    refine ⟨.mslice 9 aid (pre.length * 9) l.length (some l.length), _, ?_, ?_, hR⟩
    · simp [slcVSem, bounds, hlen]
    · simp [appMSem, elemsM, elemsOf, DVal.szOk, tightOf, hs, hm, Sto.new]
theorem RecsAt.tail {σ : Sto} {lg lid mid : Nat} {v : DVal} {x : RecV} {l : List RecV} (h : RecsAt σ lg lid mid v (x :: l)) (hl : l ≠ []) :
    ∃ v', slcVSem 9 true false false [v, .int .i64 1] = some v' ∧ RecsAt σ lg lid mid v' l ∧ ∀ i, arr v' i → arr v i := by
  rcases h with ⟨rfl, h⟩ | ⟨aid, pre, cap, rfl, h1, n1, n2, n3, hne, h2⟩
  · cases h
  · have hlen : 0 < l.length := List.length_pos_iff.2 hl
    have hb : (1 : Int) ≤ (l.length : Int) + 1 := by omega
    refine ⟨.mslice 9 aid ((pre ++ [x]).length * 9) l.length (cap.map (· - 1)), ?_, .inr ⟨aid, pre ++ [x], _, rfl, h1, n1, n2, n3, hl, by simpa using h2⟩, ?_⟩
    · simp [slcVSem, bounds, hlen, hb, Nat.add_mul]
    · rintro i ⟨sz, off, len, cap', e⟩
      injection e with _ e2
      exact ⟨_, _, _, _, by rw [e2]⟩
end Go.Proofs.YtagkgekpfgepoaaDoor
namespace Go.Proofs.YtagkgekpfgepoaaDoor
set_option linter.unusedVariables false
set_option linter.unusedSimpArgs false
set_option maxRecDepth 20000
set_option maxHeartbeats 8000000
open Go
def headC : List RecV → Int
  | [] => 0
  | x :: _ => x.count
def bumpL (l : List RecV) (i : Nat) (c : Int) : List RecV := match l[i]? with
  | some x => l.set i { x with count := w64 (x.count + c) }
  | none => l
def pushV (L : LogV) (r : RecV) : LogV :=
  if L.size < ((L.recs ++ [r]).length : Int) then { L with removed := w64 (L.removed + headC (L.recs ++ [r])), recs := (L.recs ++ [r]).drop 1 } else { L with recs := L.recs ++ [r] }
def addV (L : LogV) (r : RecV) : LogV × Bool :=
  if chkV r = 0 then
    (if (allowV L.lim (nameV r) r.time).2 = true then
      (if 0 ≤ findR r L.recs 0 then ({ L with lim := (allowV L.lim (nameV r) r.time).1, recs := bumpL L.recs (findR r L.recs 0).toNat r.count }, false)
      else (pushV { L with lim := (allowV L.lim (nameV r) r.time).1 } r, true))
    else ({ L with lim := (allowV L.lim (nameV r) r.time).1, dropped := w64 (L.dropped + r.count) }, false))
  else (L, false)
structure LogEq (A B : LogV) : Prop where
  size : A.size = B.size
  dropped : A.dropped = B.dropped
  removed : A.removed = B.removed
  recs : A.recs.map RecV.strip = B.recs.map RecV.strip
  lim : A.lim = B.lim
theorem LogEq.refl (A : LogV) : LogEq A A := ⟨rfl, rfl, rfl, rfl, rfl⟩
theorem find_cases (r : RecV) : ∀ (l : List RecV) (i : Nat), (findR r l i = -1 ∧ ∀ x ∈ l, sameV x r = false) ∨ ∃ j x, findR r l i = ((i + j : Nat) : Int) ∧ l[j]? = some x ∧ sameV x r = true
  | [], i => .inl ⟨rfl, by simp⟩
  | x :: l, i => by
    rw [findR]
    cases h : sameV x r with
    | true => exact .inr ⟨0, x, by simp, rfl, h⟩
    | false =>
      rcases find_cases r l (i + 1) with ⟨h1, h2⟩ | ⟨j, y, h1, h2, h3⟩
      · refine .inl ⟨by simp [h1], fun y hy => ?_⟩
        rcases List.mem_cons.1 hy with rfl | hy
        · exact h
        · exact h2 y hy
      · exact .inr ⟨j + 1, y, by simp [h1]; omega, by simpa using h2, h3⟩
section
variable {σ : Sto} {lg lid mid : Nat} {v : DVal} {L : LogV} (h : LogAt σ lg lid mid v L)
include h
theorem LogAt.row (v' : DVal) (L' : LogV) (hl : L'.lim = L.lim) (hs : L'.size = L.size) (hr : RecsAt σ lg lid mid v' L'.recs) : LogAt (σ.put lg (.agg [.int .i64 L'.size, v', .int .i64 L'.dropped, .int .i64 L'.removed, .obj lid 0])) lg lid mid v' L' := by
  refine ⟨h.lgl, h.n1, h.n2, by simp, ?_, hr.put (.inl rfl) _, by rw [hs]; exact h.size⟩
  rw [hl]
  exact ⟨h.lim.lidl, h.lim.midl, h.lim.ne, by rw [Sto.put_obj_ne (fun e => h.n1 e.symm)]; exact h.lim.obj, by rw [Sto.put_obj_ne (fun e => h.n2 e.symm)]; exact h.lim.map⟩
theorem LogAt.st1 {v' : DVal} (hc : v'.cells = [v']) (hk : v'.okCell = true) : stOSem σ 1 [.obj lg 1, v'] = some (.undef, σ.put lg (.agg [.int .i64 L.size, v', .int .i64 L.dropped, .int .i64 L.removed, .obj lid 0])) := by
  rw [st_obj (k := 1) h.obj h.lgl (by rw [hc]; rfl) (by rw [hc]; simp [hk]), hc]; rfl
theorem LogAt.st2 (c : Int) : stOSem σ 1 [.obj lg 2, .int .i64 c] = some (.undef, σ.put lg (.agg [.int .i64 L.size, v, .int .i64 c, .int .i64 L.removed, .obj lid 0])) := by
  rw [st_obj (k := 1) h.obj h.lgl rfl rfl]; rfl
theorem LogAt.st3 (c : Int) : stOSem σ 1 [.obj lg 3, .int .i64 c] = some (.undef, σ.put lg (.agg [.int .i64 L.size, v, .int .i64 L.dropped, .int .i64 c, .obj lid 0])) := by
  rw [st_obj (k := 1) h.obj h.lgl rfl rfl]; rfl
theorem LogAt.arr {a : Nat} (ha : a ≠ lg ∧ a ≠ lid ∧ a ≠ mid) (d : DVal) {l : List RecV} (hr : RecsAt (σ.put a d) lg lid mid v l) : LogAt (σ.put a d) lg lid mid v { L with recs := l } :=
  ⟨h.lgl, h.n1, h.n2, by rw [Sto.put_obj_ne (fun e => ha.1 e.symm)]; exact h.obj, ⟨h.lim.lidl, h.lim.midl, h.lim.ne, by rw [Sto.put_obj_ne (fun e => ha.2.1 e.symm)]; exact h.lim.obj, by rw [Sto.put_obj_ne (fun e => ha.2.2 e.symm)]; exact h.lim.map⟩, hr, h.size⟩
end
def touch (lg lid mid : Nat) (v : DVal) (i : Nat) : Prop := i = lg ∨ i = lid ∨ i = mid ∨ arr v i
structure Added (σ σ' : Sto) (lg lid mid : Nat) (v v' : DVal) (L' L : LogV) : Prop where
  log : LogAt σ' lg lid mid v' L'
  eq : LogEq L' L
  keep : KeepO σ σ' (touch lg lid mid v)
  own : ∀ i, arr v' i → arr v i ∨ σ.nobj ≤ i
theorem e15 {n : Nat} (hn : 3000000 ≤ n) {σ : Sto} {lg lid mid : Nat} {v : DVal} {L : LogV} (h : LogAt σ lg lid mid v L) (r : RecV) (hf : Fit r) (hst : stepsR r + 1000 ≤ n) (hi : L.lim.interval ≠ 0) (hb : L.lim.bk.length < 1024) (hl : L.recs.length < 100000) (hp : ∀ x ∈ L.recs, x.perms.l.length < 1000000) :
    ∃ σ' v' L', ciJ PR n 15 [.obj lg 0, r.d] σ = some (.bool (addV L r).2, σ') ∧ Added σ σ' lg lid mid v v' L' (addV L r).1 := by
  obtain ⟨n, rfl⟩ : ∃ m, n = m + 1 := ⟨n - 1, by omega⟩
  -- the record in a box
  have hbx : boxOSem σ [r.d] = some (.obj σ.nobj 0, σ.new (.agg r.row)) := by
    simp only [boxOSem, show r.d.cells = r.row from rfl, RecV_okc, if_true]
    rfl
  have h1 := h.new (.agg r.row)
  have ha1 : σ.nobj < (σ.new (.agg r.row)).nobj := by simp
  have ho1 : (σ.new (.agg r.row)).obj σ.nobj = .agg r.row := by simp
  have nlg : σ.nobj ≠ lg := by have := h.lgl; omega
  have nlid : σ.nobj ≠ lid := by have := h.lim.lidl; omega
  have nmid : σ.nobj ≠ mid := by have := h.lim.midl; omega
  have k1 : KeepO σ (σ.new (.agg r.row)) (touch lg lid mid v) := ⟨by simp, fun i hi _ => Sto.new_obj_ne hi⟩
  generalize hσ1 : σ.new (.agg r.row) = σ1 at *
  generalize hA : σ.nobj = A at *
  have g43 := e27 h1 (n := n) (by omega)
  have hld : ldOSem σ1 (some 9) [.obj A 0] = some (r.d, σ1) := by rw [ld_obj _ ho1 ha1]; rfl
  have h9 := e14 (n := n) r hf (by omega)
  have bx : boxOSem σ [r.d] = some (.obj A 0, σ1) := hbx
  by_cases hck : chkV r = 0
  case neg =>
    have e : addV L r = (L, false) := by rw [addV, if_neg hck]
    rw [e]
    refine ⟨σ1, v, L, ?_, h1, .refl _, k1, fun i hi => .inl hi⟩
    have hcb : (chkV r == 0) = false := beq_eq_false_iff_ne.2 hck
    rw [v15]
    generalize chkV r = c at *
    simp -implicitDefEqProofs [D15, bx, g43, hld, h9, hck, hcb]
  rw [hck] at h9
  have ok := chk_ok hck
  have q4 := h1.ld4
  have h45 := e33 (n := n) (by omega) r ok
  have hlt0 : ldOSem σ1 none [.obj A 0] = some (.int .i64 r.time, σ1) := by rw [ld_obj _ ho1 ha1]; rfl
  obtain ⟨σ2, h44, l2, nb2, ob2⟩ := e32 (n := n) (by omega) h1.lim hi hb (nameV r) r.time
  unfold addV
  rw [if_pos hck]
  generalize hal : allowV L.lim (nameV r) r.time = al at *
  have hrs : RecsAt σ2 lg lid mid v L.recs := by
    rcases h1.recs with hh | ⟨aid, pre, cap, x1, x2, x3, x4, x5, x6, x7⟩
    · exact .inl hh
    · exact .inr ⟨aid, pre, cap, x1, by rw [nb2]; exact x2, x3, x4, x5, x6, by rw [ob2 _ x4 x5]; exact x7⟩
  have h2 : LogAt σ2 lg lid mid v { L with lim := al.1 } :=
    ⟨by rw [nb2]; exact h1.lgl, h.n1, h.n2, by rw [ob2 _ h.n1 h.n2]; exact h1.obj, l2, hrs, h.size⟩
  have ha2 : A < σ2.nobj := by rw [nb2]; exact ha1
  have ho2 : σ2.obj A = .agg r.row := by rw [ob2 _ nlid nmid]; exact ho1
  have k2 : KeepO σ σ2 (touch lg lid mid v) := by
    refine ⟨by rw [nb2]; exact k1.nobj, fun i hi hn => ?_⟩
    rw [ob2 i (fun e => hn (.inr (.inl e))) (fun e => hn (.inr (.inr (.inl e))))]
    exact k1.obj i hi hn
  have hcnt : ldOSem σ2 none [.obj A 8] = some (.int .i64 r.count, σ2) := by rw [ld_obj _ ho2 ha2]; rfl
  have hld2 : ldOSem σ2 (some 9) [.obj A 0] = some (r.d, σ2) := by rw [ld_obj _ ho2 ha2]; rfl
  cases hok : al.2 with
  | false =>
    rw [hok] at h44
    simp only [Bool.false_eq_true, if_false]
    have c2 := h2.ld2
    have s2 := h2.st2 (w64 (L.dropped + r.count))
    have hr := h2.row v { L with lim := al.1, dropped := w64 (L.dropped + r.count) } rfl rfl h2.recs
    refine ⟨_, v, _, ?_, hr, .refl _, ⟨k2.nobj, fun i hi hn => ?_⟩, fun i hi => .inl hi⟩
    · rw [v15]
      simp -implicitDefEqProofs [D15, bx, g43, hld, h9, q4, h45, hlt0, h44, hcnt, c2, s2]
    · rw [Sto.put_obj_ne (fun e => hn (.inl e))]
      exact k2.obj i hi hn
  | true =>
    rw [hok] at h44
    simp only [if_true]
    have c1 := h2.ld1
    have hv := hrs.okVal
    have h46 := e34 (n := n) ha2 ho2 hrs (by omega) hp (by omega)
    rcases find_cases r L.recs 0 with ⟨hf1, hf2⟩ | ⟨j, x, hf1, hf2, hf3⟩
    · -- a new one
      rw [hf1] at h46
      rw [hf1]
      simp only [show ¬ ((0 : Int) ≤ -1) by omega, if_false]
      obtain ⟨z, h48⟩ := e28 (n := n) (by omega) r (by have := ok.few; omega)
      have hsl := RecV_slice (cpJ PR n) { r with perms := ⟨z, r.perms.l⟩ }
      obtain ⟨vx1, d, p1, p2, p3⟩ := hrs.push hl h2.lgl h2.lim.lidl h2.lim.midl { r with perms := ⟨z, r.perms.l⟩ }
      have hlen := h2.recs.len
      have h3 := h2.new d
      have st1 := h3.st1 (v' := .mslice 9 σ2.nobj 0 (L.recs.length + 1) none) rfl rfl
      have h4 := h3.row (.mslice 9 σ2.nobj 0 (L.recs.length + 1) none) { L with lim := al.1, recs := L.recs ++ [{ r with perms := ⟨z, r.perms.l⟩ }] } rfl rfl p3
      have own4 : ∀ i, arr (.mslice 9 σ2.nobj 0 (L.recs.length + 1) none) i → arr v i ∨ A ≤ i := by
        rintro i ⟨sz, off, len, cap, e⟩
        injection e with _ e2
        right
        rw [← e2, nb2]
        omega
      have k4 : KeepO σ ((σ2.new d).put lg (.agg [.int .i64 L.size, .mslice 9 σ2.nobj 0 (L.recs.length + 1) none, .int .i64 L.dropped, .int .i64 L.removed, .obj lid 0])) (touch lg lid mid v) := by
        refine ⟨by have := k2.nobj; simp; omega, fun i hi hn => ?_⟩
        rw [Sto.put_obj_ne (fun e => hn (.inl e)), Sto.new_obj_ne (by have := k2.nobj; omega)]
        exact k2.obj i hi hn
      have d1 := h4.ld1
      have d0 := h4.ld0
      have dl := h4.recs.len
      have hgt : ∀ K : Nat, ((K : Int) + 1 : Int) = ((K + 1 : Nat) : Int) := fun K => rfl
      have ld3d : ldOSem (σ2.new d) none [.obj A 8] = some (.int .i64 r.count, σ2.new d) := by
        rw [ld_obj _ (by rw [Sto.new_obj_ne ha2]; exact ho2) (by rw [Sto.new_nobj]; omega)]; rfl
      have ph : pushV { L with lim := al.1 } r = if L.size < ((L.recs.length + 1 : Nat) : Int) then { L with lim := al.1, removed := w64 (L.removed + headC (L.recs ++ [r])), recs := (L.recs ++ [r]).drop 1 } else { L with lim := al.1, recs := L.recs ++ [r] } := by
        simp [pushV]
      rw [ph]
      have hdl : lenSlSem [.mslice 9 σ2.nobj 0 (L.recs.length + 1) none] = some (.int .i64 ((L.recs.length + 1 : Nat) : Int)) := rfl
      generalize hV4 : DVal.mslice 9 σ2.nobj 0 (L.recs.length + 1) none = V4 at *
      generalize hS4 : (σ2.new d).put lg (.agg [.int .i64 L.size, V4, .int .i64 L.dropped, .int .i64 L.removed, .obj lid 0]) = σ4 at *
      by_cases hsz : L.size < ((L.recs.length + 1 : Nat) : Int)
      · rw [if_pos hsz]
        -- the first one is removed
        have hL1 : L.recs ≠ [] := by
          intro hh
          rw [hh] at hsz
          have := h.size
          simp at hsz
          omega
        obtain ⟨x0, xs, hxs⟩ : ∃ x0 xs, L.recs = x0 :: xs := by
          cases hh : L.recs with
          | nil => exact absurd hh hL1
          | cons a b => exact ⟨a, b, rfl⟩
        have hr4 : RecsAt σ4 lg lid mid V4 (x0 :: (xs ++ [{ r with perms := ⟨z, r.perms.l⟩ }])) := by
          have := h4.recs
          simp only [hxs, List.cons_append] at this
          exact this
        obtain ⟨a0, off0, i0, -, i2⟩ := hr4.elem (i := 0) (x := x0) rfl
        have i0 : idxSSem 9 [V4, .int .i64 0] = some (.obj a0 off0) := i0
        have hsz' : L.size < (L.recs.length : Int) + 1 := hsz
        have d3 := h4.ld3
        have st3 := h4.st3 (w64 (L.removed + x0.count))
        have h5 := h4.row V4 { L with lim := al.1, removed := w64 (L.removed + x0.count), recs := L.recs ++ [{ r with perms := ⟨z, r.perms.l⟩ }] } rfl rfl h4.recs
        have st3 : stOSem σ4 1 [.obj lg 3, .int .i64 (w64 (L.removed + x0.count))] = some (.undef, σ4.put lg (.agg [.int .i64 L.size, V4, .int .i64 L.dropped, .int .i64 (w64 (L.removed + x0.count)), .obj lid 0])) := st3
        have h5 : LogAt (σ4.put lg (.agg [.int .i64 L.size, V4, .int .i64 L.dropped, .int .i64 (w64 (L.removed + x0.count)), .obj lid 0])) lg lid mid V4 { L with lim := al.1, removed := w64 (L.removed + x0.count), recs := L.recs ++ [{ r with perms := ⟨z, r.perms.l⟩ }] } := h5
        generalize hS5 : σ4.put lg (.agg [.int .i64 L.size, V4, .int .i64 L.dropped, .int .i64 (w64 (L.removed + x0.count)), .obj lid 0]) = σ5 at *
        have b1 := h5.ld1
        have hr5 : RecsAt σ5 lg lid mid V4 (x0 :: (xs ++ [{ r with perms := ⟨z, r.perms.l⟩ }])) := by
          have := h5.recs
          simp only [hxs, List.cons_append] at this
          exact this
        obtain ⟨vx6, t1, t2, t3⟩ := hr5.tail (by simp)
        have st6 := h5.st1 t2.cells t2.okCell
        have h6 := h5.row vx6 { L with lim := al.1, removed := w64 (L.removed + x0.count), recs := xs ++ [{ r with perms := ⟨z, r.perms.l⟩ }] } rfl rfl t2
        refine ⟨_, vx6, _, ?_, h6, ⟨rfl, rfl, ?_, ?_, rfl⟩, ⟨?_, fun i hi hn => ?_⟩, fun i hi => by rw [hA]; exact own4 i (t3 i hi)⟩
        · rw [v15]
          generalize ({ r with perms := ⟨z, r.perms.l⟩ } : RecV) = X at *
          simp -implicitDefEqProofs [D15, bx, g43, hld, h9, q4, h45, hlt0, h44, c1, hv, h46, hlen, p1, hld2, h48, hsl, p2, st1, d1, d0, hdl, hsz', d3, i0, i2, st3, b1, t1, st6, -jwrSem.eq_1, -fldSem.eq_1]
        · show w64 (L.removed + x0.count) = w64 (L.removed + headC (L.recs ++ [r]))
          rw [hxs]; rfl
        · show (xs ++ [({ r with perms := ⟨z, r.perms.l⟩ } : RecV)]).map RecV.strip = ((L.recs ++ [r]).drop 1).map RecV.strip
          rw [hxs]
          simp [RecV.strip]
        · rw [Sto.put_nobj, ← hS5, Sto.put_nobj]
          exact k4.nobj
        · rw [Sto.put_obj_ne (fun e => hn (.inl e)), ← hS5, Sto.put_obj_ne (fun e => hn (.inl e))]
          exact k4.obj i hi hn
      · rw [if_neg hsz]
        refine ⟨σ4, V4, _, ?_, h4, ⟨rfl, rfl, rfl, ?_, rfl⟩, k4, fun i hi => by rw [hA]; exact own4 i hi⟩
        · rw [v15]
          generalize ({ r with perms := ⟨z, r.perms.l⟩ } : RecV) = X at *
          have hsz' : ¬ (L.size < (L.recs.length : Int) + 1) := hsz
          simp -implicitDefEqProofs [D15, bx, g43, hld, h9, q4, h45, hlt0, h44, c1, hv, h46, hlen, p1, hld2, h48, hsl, p2, st1, d1, d0, hdl, hsz', -jwrSem.eq_1, -fldSem.eq_1]
        · show (L.recs ++ [({ r with perms := ⟨z, r.perms.l⟩ } : RecV)]).map RecV.strip = (L.recs ++ [r]).map RecV.strip
          simp [RecV.strip]
    · -- one of its kind
      rw [hf1] at h46
      rw [hf1]
      have hj0 : (0 : Int) ≤ ((0 + j : Nat) : Int) := by omega
      simp only [hj0, if_true, Int.toNat_natCast]
      rw [Nat.zero_add] at h46 ⊢
      have hbm : bumpL L.recs j r.count = L.recs.set j { x with count := w64 (x.count + r.count) } := by rw [bumpL, hf2]
      rw [hbm]
      obtain ⟨a, off, i1, i2, i3, na1, na2, na3, i4⟩ := hrs.bump hf2
      obtain ⟨d, st, hrs'⟩ := i4 (w64 (x.count + r.count))
      have h5 := h2.arr ⟨na1, na2, na3⟩ d hrs'
      refine ⟨_, v, _, ?_, h5, .refl _, ⟨k2.nobj, fun i hi hn => ?_⟩, fun i hi => .inl hi⟩
      · rw [v15]
        have hjI : (0 : Int) ≤ (j : Int) := by omega
        simp -implicitDefEqProofs [D15, bx, g43, hld, h9, q4, h45, hlt0, h44, c1, hv, h46, hjI, hcnt, i1, i2, st]
      · rw [Sto.put_obj_ne (fun e => hn (.inr (.inr (.inr (by rw [e]; exact i3)))))]
        exact k2.obj i hi hn
end Go.Proofs.YtagkgekpfgepoaaDoor
namespace Go.Proofs.YtagkgekpfgepoaaDoor
set_option linter.unusedVariables false
set_option linter.unusedSimpArgs false
set_option maxRecDepth 20000
set_option maxHeartbeats 4000000
open Go
theorem find_strip (r : RecV) : ∀ {a b : List RecV} {i : Nat}, a.map RecV.strip = b.map RecV.strip → findR r a i = findR r b i
  | [], [], i, h => rfl
  | [], y :: b, i, h => by simp at h
  | x :: a, [], i, h => by simp at h
  | x :: a, y :: b, i, h => by
    simp only [List.map_cons, List.cons.injEq] at h
    rw [findR, findR, same_eq h.1 rfl, find_strip r h.2]
theorem head_strip : ∀ {a b : List RecV}, a.map RecV.strip = b.map RecV.strip → headC a = headC b
  | [], [], h => rfl
  | [], y :: b, h => by simp at h
  | x :: a, [], h => by simp at h
  | x :: a, y :: b, h => by
    simp only [List.map_cons, List.cons.injEq] at h
    exact count_eq h.1
theorem bump_strip (l : List RecV) (i : Nat) (c : Int) : (bumpL l i c).map RecV.strip = bumpL (l.map RecV.strip) i c := by
  unfold bumpL
  rw [List.getElem?_map]
  cases l[i]? with
  | none => rfl
  | some x => simp only [Option.map_some, List.map_set]; rfl
theorem LogEq.trans {A B C : LogV} (h : LogEq A B) (g : LogEq B C) : LogEq A C :=
  ⟨h.size.trans g.size, h.dropped.trans g.dropped, h.removed.trans g.removed, h.recs.trans g.recs, h.lim.trans g.lim⟩
theorem LogEq.len {A B : LogV} (h : LogEq A B) : A.recs.length = B.recs.length := by
  have := congrArg List.length h.recs
  simpa using this
theorem strip_mem {a b : List RecV} (h : a.map RecV.strip = b.map RecV.strip) {P : RecV → Prop} (hP : ∀ x y : RecV, x.strip = y.strip → P x → P y) (hb : ∀ x ∈ b, P x) : ∀ x ∈ a, P x := by
  intro x hx
  have : x.strip ∈ b.map RecV.strip := by rw [← h]; exact List.mem_map_of_mem hx
  obtain ⟨y, hy, e⟩ := List.mem_map.1 this
  exact hP y x e (hb y hy)
theorem addV_congr {A B : LogV} (h : LogEq A B) (r : RecV) : (addV A r).2 = (addV B r).2 ∧ LogEq (addV A r).1 (addV B r).1 := by
  unfold addV
  rw [h.lim, find_strip r h.recs, h.dropped]
  by_cases h1 : chkV r = 0
  · rw [if_pos h1, if_pos h1]
    by_cases h2 : (allowV B.lim (nameV r) r.time).2 = true
    · rw [if_pos h2, if_pos h2]
      by_cases h3 : 0 ≤ findR r B.recs 0
      · rw [if_pos h3, if_pos h3]
        exact ⟨rfl, ⟨h.size, by first | exact h.dropped | rfl, h.removed, by show (bumpL _ _ _).map _ = (bumpL _ _ _).map _; rw [bump_strip, bump_strip, h.recs], rfl⟩⟩
      · rw [if_neg h3, if_neg h3]
        refine ⟨rfl, ?_⟩
        have hr : (A.recs ++ [r]).map RecV.strip = (B.recs ++ [r]).map RecV.strip := by rw [List.map_append, List.map_append, h.recs]
        have hl : (A.recs ++ [r]).length = (B.recs ++ [r]).length := by simp [h.len]
        unfold pushV
        simp only [h.size, hl]
        split
        · exact ⟨rfl, by first | exact h.dropped | rfl, by show w64 _ = w64 _; rw [h.removed, head_strip hr], by show ((A.recs ++ [r]).drop 1).map _ = _; rw [List.map_drop, hr, ← List.map_drop], rfl⟩
        · exact ⟨rfl, by first | exact h.dropped | rfl, h.removed, hr, rfl⟩
    · rw [if_neg h2, if_neg h2]
      exact ⟨rfl, ⟨h.size, rfl, h.removed, h.recs, rfl⟩⟩
  · rw [if_neg h1, if_neg h1]
    exact ⟨rfl, ⟨h.size, by first | exact h.dropped | rfl, h.removed, h.recs, h.lim⟩⟩
def LogS (σ : Sto) (lg lid mid : Nat) (v : DVal) (M : LogV) : Prop := ∃ L, LogAt σ lg lid mid v L ∧ LogEq L M
structure Room (M : LogV) : Prop where
  int : M.lim.interval ≠ 0
  bk : M.lim.bk.length < 1024
  recs : M.recs.length < 100000
  perms : ∀ x ∈ M.recs, x.perms.l.length < 1000000
theorem Room.of {L M : LogV} (h : LogEq L M) (g : Room M) : Room L :=
  ⟨by rw [h.lim]; exact g.int, by rw [h.lim]; exact g.bk, by rw [h.len]; exact g.recs, strip_mem h.recs (P := fun x => x.perms.l.length < 1000000) (fun x y e hx => by
    have : x.perms.l = y.perms.l := by
      have := congrArg (fun r : RecV => r.perms.l) e
      exact this
    rw [← this]; exact hx) g.perms⟩
section
variable {n : Nat} {σ : Sto} {lg lid mid : Nat} {v : DVal} {M : LogV} (h : LogS σ lg lid mid v M)
include h
theorem e23s (hn : 3000000 ≤ n) (r : RecV) (hf : Fit r) (hst : stepsR r + 1000 ≤ n) (hm : Room M) :
    ∃ σ' v', ciJ PR n 15 [.obj lg 0, r.d] σ = some (.bool (addV M r).2, σ') ∧ LogS σ' lg lid mid v' (addV M r).1 ∧ KeepO σ σ' (touch lg lid mid v) ∧ ∀ i, arr v' i → arr v i ∨ σ.nobj ≤ i := by
  obtain ⟨L, h1, h2⟩ := h
  have g := Room.of h2 hm
  obtain ⟨σ', v', L', a1, a2⟩ := e15 hn h1 r hf hst g.int g.bk g.recs g.perms
  obtain ⟨c1, c2⟩ := addV_congr h2 r
  exact ⟨σ', v', by rw [← c1]; exact a1, ⟨L', a2.log, a2.eq.trans c2⟩, a2.keep, a2.own⟩
theorem e27s (hn : 1000101 ≤ n) (hm : Room M) : ∃ u σ' c, ciJ PR n 12 [.obj lg 0] σ = some (u, σ') ∧ KeepO σ σ' (fun _ => False) ∧ MR σ σ' u c ∧ c.map RecV.strip = M.recs.map RecV.strip ∧ LogS σ' lg lid mid v M := by
  obtain ⟨L, h1, h2⟩ := h
  have g := Room.of h2 hm
  obtain ⟨u, σ', c, a1, a2, a3, a4⟩ := e12 (n := n) h1 (by have := g.recs; omega) g.perms hn
  exact ⟨u, σ', c, a1, a2, a3, a4.trans h2.recs, L, h1.keep0 a2, h2⟩
theorem e28s (hn : 2 ≤ n) : ciJ PR n 16 [.obj lg 0] σ = some (.tup [.int .i64 M.dropped, .int .i64 M.removed], σ) := by
  obtain ⟨L, h1, h2⟩ := h
  rw [e16 h1 hn, h2.dropped, h2.removed]
theorem e21s (hn : 2 ≤ n) : ∃ u σ', ciJ PR n 13 [.obj lg 0] σ = some (u, σ') ∧ LogS σ' lg lid mid .nils { M with recs := [] } ∧ σ'.nobj = σ.nobj ∧ ∀ i, i ≠ lg → σ'.obj i = σ.obj i := by
  obtain ⟨L, h1, h2⟩ := h
  obtain ⟨u, σ', a1, a2, a3, a4⟩ := e13 h1 hn
  exact ⟨u, σ', a1, ⟨_, a2, ⟨h2.size, h2.dropped, h2.removed, rfl, h2.lim⟩⟩, a3, a4⟩
end
theorem LogS.keep {σ σ' : Sto} {lg lid mid : Nat} {v : DVal} {M : LogV} (h : LogS σ lg lid mid v M) {p : Nat → Prop} (k : KeepO σ σ' p) (h1 : ¬ p lg) (h2 : ¬ p lid) (h3 : ¬ p mid) (h4 : ∀ i, arr v i → ¬ p i) : LogS σ' lg lid mid v M := by
  obtain ⟨L, a, e⟩ := h
  have kn := k.nobj
  refine ⟨L, ⟨by have := a.lgl; omega, a.n1, a.n2, by rw [k.obj _ a.lgl h1]; exact a.obj, ⟨by have := a.lim.lidl; omega, by have := a.lim.midl; omega, a.lim.ne, by rw [k.obj _ a.lim.lidl h2]; exact a.lim.obj, by rw [k.obj _ a.lim.midl h3]; exact a.lim.map⟩, ?_, a.size⟩, e⟩
  rcases a.recs with hh | ⟨aid, pre, cap, x1, x2, x3, x4, x5, x6, x7⟩
  · exact .inl hh
  · exact .inr ⟨aid, pre, cap, x1, by omega, x3, x4, x5, x6, by rw [k.obj _ x2 (h4 aid ⟨_, _, _, _, x1⟩)]; exact x7⟩
end Go.Proofs.YtagkgekpfgepoaaDoor
namespace Go.Proofs.YtagkgekpfgepoaaDoor
set_option linter.unusedVariables false
set_option linter.unusedSimpArgs false
set_option maxRecDepth 20000
set_option maxHeartbeats 4000000
open Go
def eqR (a b : RecV) : Bool := sameV a b && (a.time == b.time) && (a.seq == b.seq) && (a.count == b.count)
def eqL : List RecV → List RecV → Bool
  | [], [] => true
  | x :: a, y :: b => eqR x y && eqL a b
  | _, _ => false
theorem same_iff {a b : RecV} : sameV a b = true ↔ a.gr = b.gr ∧ a.pe = b.pe ∧ a.src = b.src ∧ a.tgt = b.tgt ∧ a.cls = b.cls ∧ a.perms.l = b.perms.l := by
  simp only [sameV, Bool.and_eq_true, beq_iff_eq]
  exact ⟨fun h => ⟨h.1.1.1.1.1, h.1.1.1.1.2, h.1.1.1.2, h.1.1.2, h.1.2, h.2⟩, fun h => ⟨⟨⟨⟨⟨h.1, h.2.1⟩, h.2.2.1⟩, h.2.2.2.1⟩, h.2.2.2.2.1⟩, h.2.2.2.2.2⟩⟩
theorem strip_eq_iff {a b : RecV} : a.strip = b.strip ↔ eqR a b = true := by
  obtain ⟨t, s, g, p, sr, tg, c, ⟨z, l⟩, n⟩ := a
  obtain ⟨t', s', g', p', sr', tg', c', ⟨z', l'⟩, n'⟩ := b
  simp only [RecV.strip, RecV.mk.injEq, eqR, sameV, Bool.and_eq_true, beq_iff_eq, Sl.mk.injEq, true_and]
  constructor
  · rintro ⟨rfl, rfl, rfl, rfl, rfl, rfl, rfl, rfl, rfl⟩
    simp
  · rintro ⟨⟨⟨⟨⟨⟨⟨⟨h1, h2⟩, h3⟩, h4⟩, h5⟩, h6⟩, h7⟩, h8⟩, h9⟩
    exact ⟨h7, h8, h1, h2, h3, h4, h5, h6, h9⟩
theorem eqL_iff : ∀ {a b : List RecV}, a.map RecV.strip = b.map RecV.strip ↔ eqL a b = true
  | [], [] => by simp [eqL]
  | [], y :: b => by simp [eqL]
  | x :: a, [] => by simp [eqL]
  | x :: a, y :: b => by
    rw [eqL, Bool.and_eq_true, ← strip_eq_iff, ← eqL_iff]
    simp
theorem eqL_len : ∀ {a b : List RecV}, a.length ≠ b.length → eqL a b = false
  | [], [], h => absurd rfl h
  | [], y :: b, h => rfl
  | x :: a, [], h => rfl
  | x :: a, y :: b, h => by
    rw [eqL, eqL_len (by simpa using h), Bool.and_false]
theorem idx_rows {z : Zs} {l : List RecV} {i : Nat} {x : RecV} (h : l[i]? = some x) : idxSSem 9 [slD z 9 (recRows l), .int .i64 i] = some (.elem x.row 0) := by
  rw [idx_slD, if_pos (by omega), Int.toNat_natCast, recRows, List.getElem?_map, h]
  rfl
theorem len_rows {z : Zs} {l : List RecV} : lenSlSem [slD z 9 (recRows l)] = some (.int .i64 l.length) := by
  rw [len_slD]
  simp [recRows]
theorem l17 {n : Nat} (z z' : Zs) (a b : List RecV) (hl : a.length = b.length) (hs : a.length < 1000000) (hp : ∀ x ∈ a, x.perms.l.length < 1000000) (hn : 1000010 ≤ n) (q : DVal) (σ : Sto) : ∀ (k i m : Nat), a.length = i + k → k < m →
    iterJ 0 (L17_0 (cpJ PR n) (ciJ PR n) n (slD z 9 (recRows a)) (slD z' 9 (recRows b))) m [.int .i64 i, q] σ = some (.done (.bool (eqL (a.drop i) (b.drop i))) σ) := by
  intro k
  have h2 := len_rows (z := z) (l := a)
  induction k with
  | zero =>
    intro i m hi hm
    obtain ⟨m, rfl⟩ : ∃ q, m = q + 1 := ⟨m - 1, by omega⟩
    have hi' : ¬ ((i : Int) < a.length) := by omega
    refine iterJ_done ?_
    rw [List.drop_eq_nil_of_le (by omega), List.drop_eq_nil_of_le (by omega)]
    generalize slD z 9 (recRows a) = X at *
    generalize (a.length : Int) = K at *
    simp -implicitDefEqProofs [L17_0, B17_0, hi', h2, eqL]
  | succ k ih =>
    intro i m hi hm
    obtain ⟨m, rfl⟩ : ∃ q, m = q + 1 := ⟨m - 1, by omega⟩
    have hlt : i < a.length := by omega
    have hltI : (i : Int) < a.length := by omega
    obtain ⟨x, hx⟩ := get_some hlt
    obtain ⟨y, hy⟩ := get_some (show i < b.length by omega)
    have hw : IntKind.i64.wrap ((i : Int) + 1) = ((i + 1 : Nat) : Int) := wrap_succ (by omega)
    have g1 := idx_rows (z := z) hx
    have g2 := idx_rows (z := z') hy
    have hpx := hp x (List.mem_of_getElem? hx)
    have h12 := e36 (n := n) x y hpx (by omega)
    rw [drop_get hx, drop_get hy, eqL, eqR]
    have key : (sameV x y && (x.time == y.time) && (x.seq == y.seq) && (x.count == y.count)) = true → iterJ 0 (L17_0 (cpJ PR n) (ciJ PR n) n (slD z 9 (recRows a)) (slD z' 9 (recRows b))) (m + 1) [.int .i64 i, q] σ = iterJ 0 (L17_0 (cpJ PR n) (ciJ PR n) n (slD z 9 (recRows a)) (slD z' 9 (recRows b))) m [.int .i64 ((i + 1 : Nat) : Int), q] σ := by
      intro h
      simp only [Bool.and_eq_true, beq_iff_eq] at h
      obtain ⟨⟨⟨c1, c2⟩, c3⟩, c4⟩ := h
      rw [c1] at h12
      refine iterJ_next' ?_
      generalize slD z 9 (recRows a) = X at *
      generalize slD z' 9 (recRows b) = Y at *
      generalize (a.length : Int) = K at *
      simp -implicitDefEqProofs [L17_0, B17_0, hltI, h2, g1, g2, h12, c2, c3, c4, hw]
    have stop : (sameV x y && (x.time == y.time) && (x.seq == y.seq) && (x.count == y.count)) = false → iterJ 0 (L17_0 (cpJ PR n) (ciJ PR n) n (slD z 9 (recRows a)) (slD z' 9 (recRows b))) (m + 1) [.int .i64 i, q] σ = some (.done (.bool false) σ) := by
      intro h
      refine iterJ_done ?_
      clear ih key
      generalize slD z 9 (recRows a) = X at *
      generalize slD z' 9 (recRows b) = Y at *
      generalize (a.length : Int) = K at *
      cases c1 : sameV x y with
      | false =>
        rw [c1] at h12
        simp -implicitDefEqProofs [L17_0, B17_0, hltI, h2, g1, g2, h12]
      | true =>
        rw [c1] at h12
        by_cases c2 : x.time = y.time
        case neg =>
          have c2' : (x.time != y.time) = true := bne_iff_ne.2 c2
          simp -implicitDefEqProofs [L17_0, B17_0, hltI, h2, g1, g2, h12, c2, c2']
        by_cases c3 : x.seq = y.seq
        case neg =>
          have c3' : (x.seq != y.seq) = true := bne_iff_ne.2 c3
          simp -implicitDefEqProofs [L17_0, B17_0, hltI, h2, g1, g2, h12, c2, c3, c3']
        by_cases c4 : x.count = y.count
        case neg =>
          have c4' : (x.count != y.count) = true := bne_iff_ne.2 c4
          simp -implicitDefEqProofs [L17_0, B17_0, hltI, h2, g1, g2, h12, c2, c3, c4, c4']
        rw [c1, c2, c3, c4] at h
        simp at h
    cases hc : (sameV x y && (x.time == y.time) && (x.seq == y.seq) && (x.count == y.count)) with
    | true =>
      rw [key hc, ih (i + 1) m (by omega) (by omega), Bool.true_and]
    | false =>
      rw [stop hc, Bool.false_and]
theorem e17 {n : Nat} (z z' : Zs) (a b : List RecV) (hs : a.length < 1000000) (hp : ∀ x ∈ a, x.perms.l.length < 1000000) (hn : 1000020 ≤ n) : cpJ PR n 17 [slD z 9 (recRows a), slD z' 9 (recRows b)] = some (.bool (eqL a b)) := by
  obtain ⟨n, rfl⟩ : ∃ m, n = m + 1 := ⟨n - 1, by omega⟩
  have h1 := len_rows (z := z) (l := a)
  have h2 := len_rows (z := z') (l := b)
  rw [u17]
  by_cases hl : a.length = b.length
  · have := l17 (n := n) z z' a b hl hs hp (by omega) (.bool false) emptySto a.length 0 n (by omega) (by omega)
    simp only [Int.natCast_zero, List.drop_zero] at this
    have hlb : ((a.length : Int) == (b.length : Int)) = true := by rw [beq_iff_eq]; omega
    have hlI : (a.length : Int) = (b.length : Int) := by omega
    generalize slD z 9 (recRows a) = X at *
    generalize slD z' 9 (recRows b) = Y at *
    rw [hlI] at h1
    simp -implicitDefEqProofs [D17, h1, h2, this]
  · have hlI : ¬ ((a.length : Int) = (b.length : Int)) := by omega
    have hlb : ((a.length : Int) != (b.length : Int)) = true := bne_iff_ne.2 hlI
    rw [eqL_len hl]
    generalize slD z 9 (recRows a) = X at *
    generalize slD z' 9 (recRows b) = Y at *
    generalize (a.length : Int) = K at *
    generalize (b.length : Int) = K' at *
    simp -implicitDefEqProofs [D17, h1, h2, hlI, hlb]
theorem e16one {n : Nat} (a b : RecV) (hp : a.perms.l.length < 1000000) (hn : 1000020 ≤ n) : cpJ PR n 17 [.slice false 1 9 [a.row], .slice false 1 9 [b.row]] = some (.bool (eqR a b)) := by
  have := e17 (n := n) .lit .lit [a] [b] (by simp) (by simpa using hp) hn
  rw [eqL, eqL, Bool.and_true] at this
  exact this
theorem text_inj {a b : RecV} (ha : chkV a = 0) (hb : chkV b = 0) (h : textB a = textB b) : a.strip = b.strip := by
  have h1 := parse_text (chk_ok ha)
  have h2 := parse_text (chk_ok hb)
  rw [h, h2] at h1
  have := congrArg (fun o : Option RecV => o.map RecV.strip) h1
  simp only [Option.map_some, Option.some.injEq] at this
  exact this.symm
end Go.Proofs.YtagkgekpfgepoaaDoor
namespace Go.Proofs.YtagkgekpfgepoaaDoor
set_option linter.unusedVariables false
set_option linter.unusedSimpArgs false
set_option maxRecDepth 20000
set_option maxHeartbeats 4000000
open Go
def rootS : Bs := [114, 111, 111, 116, 58, 115, 121, 115, 116, 101, 109, 58, 117, 115, 101, 114, 95, 116, 58, 115, 48]
def sampleR (t : Bs) : RecV := ⟨5, 1, false, false, rootS, t, [102, 105, 108, 101], ⟨.lit, [[114, 101, 97, 100], [119, 114, 105, 116, 101]]⟩, 2⟩
def fileS : Bs := [114, 111, 111, 116, 58, 111, 98, 106, 101, 99, 116, 95, 114, 58, 102, 105, 108, 101, 95, 116, 58, 115, 48]
def exS : Bs := [100, 101, 110, 105, 101, 100, 32, 123, 32, 114, 101, 97, 100, 32, 119, 114, 105, 116, 101, 32, 125, 32, 102, 111, 114, 32, 114, 111, 111, 116, 58, 115, 121, 115, 116, 101, 109, 58, 117, 115, 101, 114, 95, 116, 58, 115, 48, 32, 116, 111, 32, 114, 111, 111, 116, 58, 111, 98, 106, 101, 99, 116, 95, 114, 58, 102, 105, 108, 101, 95, 116, 58, 115, 48, 32, 58, 32, 102, 105, 108, 101, 32, 116, 105, 109, 101, 32, 53, 32, 115, 101, 113, 32, 49, 32, 99, 111, 117, 110, 116, 32, 50]
theorem e23 {n : Nat} (hn : 1 ≤ n) (t : Bs) : cpJ PR n 23 [.str t] = some (sampleR t).d := by
  obtain ⟨n, rfl⟩ : ∃ m, n = m + 1 := ⟨n - 1, by omega⟩
  rw [u23]
  rfl
abbrev s0 : RecV := sampleR fileS
abbrev r1 : RecV := { s0 with time := 0, count := 1 }
abbrev r2 : RecV := { s0 with time := 10, count := 1 }
abbrev sb : RecV := sampleR [98]
abbrev sc : RecV := sampleR [99]
theorem chk_s0 : chkV s0 = 0 := by kernel_rfl
theorem chk_r1 : chkV r1 = 0 := by kernel_rfl
theorem chk_r2 : chkV r2 = 0 := by kernel_rfl
theorem chk_sb : chkV sb = 0 := by kernel_rfl
theorem chk_sc : chkV sc = 0 := by kernel_rfl
theorem dec_small (k : Nat) (h : k < 10) : decB (k : Int) = [UInt8.ofNat (48 + k)] := by
  rw [decB_nat, Lib.decDigits, dif_pos h]
theorem txt_s0 : textB s0 = exS := by
  have e1 : decB 5 = [53] := dec_small 5 (by omega)
  have e2 : decB 1 = [49] := dec_small 1 (by omega)
  have e9003 : decB 2 = [50] := dec_small 2 (by omega)
  have e : endsB s0 = [[102, 111, 114], rootS, [116, 111], fileS, [58], [102, 105, 108, 101], [116, 105, 109, 101], [53], [115, 101, 113], [49], [99, 111, 117, 110, 116], [50]] := by
    show [_, _, _, _, _, _, _, decB 5, _, decB 1, _, decB 2] ++ [] = _
    rw [e1, e2, e9003]
    rfl
  have e9004 : wordsB s0 = [[100, 101, 110, 105, 101, 100], [123], [114, 101, 97, 100], [119, 114, 105, 116, 101], [125], [102, 111, 114], rootS, [116, 111], fileS, [58], [102, 105, 108, 101], [116, 105, 109, 101], [53], [115, 101, 113], [49], [99, 111, 117, 110, 116], [50]] := by
    show verbB false :: [123] :: ([[114, 101, 97, 100], [119, 114, 105, 116, 101]] ++ [125] :: endsB s0) = _
    rw [e]
    rfl
  unfold textB
  rw [e9004]
  rfl
theorem name_ne {a b : RecV} (ha : chkV { a with time := 0, seq := 0, count := 1 } = 0) (hb : chkV { b with time := 0, seq := 0, count := 1 } = 0) (h : a.tgt ≠ b.tgt) : nameV a ≠ nameV b := by
  intro e
  have := text_inj ha hb e
  have := congrArg RecV.tgt this
  exact h this
theorem allow_of {L : LimV} {k : Bs} {now t : Int} {b B : BktV} (ht : atV L now = t) (hl : (match lookB k L.bk 0 with | some (_, b) => b | none => ⟨L.burst, t, 0⟩) = b) (hB : filledV L b t = B) :
    allowV L k now = if B.left = 0 then (⟨L.burst, L.interval, t, L.allowed, w64 (L.denied + 1), setB k ⟨B.left, B.clock, w64 (B.dropped + 1)⟩ L.bk⟩, false) else (⟨L.burst, L.interval, t, w64 (L.allowed + 1), L.denied, setB k ⟨w64 (B.left - 1), B.clock, 0⟩ L.bk⟩, true) := by
  subst ht
  subst hl
  subst hB
  rfl
section
variable {K0 Kb Kc : Bs} (hb : Kb ≠ K0) (hc : Kc ≠ K0) (hcb : Kc ≠ Kb)
def W0 : LimV := limNew 2 10
def W1 (K0 : Bs) : LimV := ⟨2, 10, 0, 1, 0, [(K0, ⟨1, 0, 0⟩)]⟩
def W2 (K0 : Bs) : LimV := ⟨2, 10, 0, 2, 0, [(K0, ⟨0, 0, 0⟩)]⟩
def W3 (K0 : Bs) : LimV := ⟨2, 10, 0, 2, 1, [(K0, ⟨0, 0, 1⟩)]⟩
def W4 (K0 : Bs) : LimV := ⟨2, 10, 10, 3, 1, [(K0, ⟨0, 10, 0⟩)]⟩
def W5 (K0 Kb : Bs) : LimV := ⟨2, 10, 10, 4, 1, [(K0, ⟨0, 10, 0⟩), (Kb, ⟨1, 10, 0⟩)]⟩
def W6 (K0 Kb Kc : Bs) : LimV := ⟨2, 10, 10, 5, 1, [(K0, ⟨0, 10, 0⟩), (Kb, ⟨1, 10, 0⟩), (Kc, ⟨1, 10, 0⟩)]⟩
theorem a1 : allowV W0 K0 0 = (W1 K0, true) := by
  rw [allow_of (t := 0) (b := ⟨2, 0, 0⟩) (B := ⟨2, 0, 0⟩) (by kernel_rfl) rfl (by kernel_rfl)]
  kernel_rfl
theorem a2 : allowV (W1 K0) K0 0 = (W2 K0, true) := by
  rw [allow_of (t := 0) (b := ⟨1, 0, 0⟩) (B := ⟨1, 0, 0⟩) (by kernel_rfl) (by simp [W1, lookB]) (by kernel_rfl)]
  rw [if_neg (by decide)]
  simp only [W1, setB, lookB, if_true, List.set_cons_zero]
  kernel_rfl
theorem a3 : allowV (W2 K0) K0 0 = (W3 K0, false) := by
  rw [allow_of (t := 0) (b := ⟨0, 0, 0⟩) (B := ⟨0, 0, 0⟩) (by kernel_rfl) (by simp [W2, lookB]) (by kernel_rfl)]
  rw [if_pos rfl]
  simp only [W2, setB, lookB, if_true, List.set_cons_zero]
  kernel_rfl
theorem a4 : allowV (W3 K0) K0 10 = (W4 K0, true) := by
  rw [allow_of (t := 10) (b := ⟨0, 0, 1⟩) (B := ⟨1, 10, 1⟩) (by kernel_rfl) (by simp [W3, lookB]) (by kernel_rfl)]
  rw [if_neg (by decide)]
  simp only [W3, setB, lookB, if_true, List.set_cons_zero]
  kernel_rfl
include hb in
theorem a5 : allowV (W4 K0) Kb 5 = (W5 K0 Kb, true) := by
  rw [allow_of (t := 10) (b := ⟨2, 10, 0⟩) (B := ⟨2, 10, 0⟩) (by kernel_rfl) (by simp [W4, lookB, hb]) (by kernel_rfl)]
  rw [if_neg (by decide)]
  simp only [W4, setB, lookB, if_neg hb, List.cons_append, List.nil_append]
  kernel_rfl
include hc hcb in
theorem a6 : allowV (W5 K0 Kb) Kc 5 = (W6 K0 Kb Kc, true) := by
  rw [allow_of (t := 10) (b := ⟨2, 10, 0⟩) (B := ⟨2, 10, 0⟩) (by kernel_rfl) (by simp [W5, lookB, hc, hcb]) (by kernel_rfl)]
  rw [if_neg (by decide)]
  simp only [W5, setB, lookB, if_neg hc, if_neg hcb, List.cons_append, List.nil_append]
  kernel_rfl
end
def M0 : LogV := ⟨2, 0, 0, [], W0⟩
def M1 : LogV := ⟨2, 0, 0, [r1], W1 (nameV s0)⟩
def M2 : LogV := ⟨2, 0, 0, [{ r1 with count := 2 }], W2 (nameV s0)⟩
def M3 : LogV := ⟨2, 1, 0, [{ r1 with count := 2 }], W3 (nameV s0)⟩
def M4 : LogV := ⟨2, 1, 0, [{ r1 with count := 3 }], W4 (nameV s0)⟩
def M5 : LogV := ⟨2, 1, 0, [{ r1 with count := 3 }, sb], W5 (nameV s0) (nameV sb)⟩
def M6 : LogV := ⟨2, 1, 3, [sb, sc], W6 (nameV s0) (nameV sb) (nameV sc)⟩
theorem nb : nameV sb ≠ nameV s0 := name_ne (by kernel_rfl) (by kernel_rfl) (by decide)
theorem nc : nameV sc ≠ nameV s0 := name_ne (by kernel_rfl) (by kernel_rfl) (by decide)
theorem ncb : nameV sc ≠ nameV sb := name_ne (by kernel_rfl) (by kernel_rfl) (by decide)
theorem add_of {L : LogV} {r : RecV} {W : LimV} {ok : Bool} (hc : chkV r = 0) (ha : allowV L.lim (nameV r) r.time = (W, ok)) :
    addV L r = if ok = true then (if 0 ≤ findR r L.recs 0 then ({ L with lim := W, recs := bumpL L.recs (findR r L.recs 0).toNat r.count }, false) else (pushV { L with lim := W } r, true)) else ({ L with lim := W, dropped := w64 (L.dropped + r.count) }, false) := by
  unfold addV
  rw [if_pos hc, ha]
theorem m1 : addV M0 r1 = (M1, true) := by
  rw [add_of chk_r1 (show allowV M0.lim (nameV r1) r1.time = (W1 (nameV s0), true) from a1)]
  unfold M1
  generalize nameV s0 = K
  kernel_rfl
theorem m2 : addV M1 r1 = (M2, false) := by
  rw [add_of chk_r1 (show allowV M1.lim (nameV r1) r1.time = (W2 (nameV s0), true) from a2)]
  unfold M1 M2
  generalize nameV s0 = K
  kernel_rfl
theorem m3 : addV M2 r1 = (M3, false) := by
  rw [add_of chk_r1 (show allowV M2.lim (nameV r1) r1.time = (W3 (nameV s0), false) from a3)]
  unfold M2 M3
  generalize nameV s0 = K
  kernel_rfl
theorem m4 : addV M3 r2 = (M4, false) := by
  rw [add_of chk_r2 (show allowV M3.lim (nameV r2) r2.time = (W4 (nameV s0), true) from a4)]
  unfold M3 M4
  generalize nameV s0 = K
  kernel_rfl
theorem m5 : addV M4 sb = (M5, true) := by
  rw [add_of chk_sb (show allowV M4.lim (nameV sb) sb.time = (W5 (nameV s0) (nameV sb), true) from a5 nb)]
  unfold M4 M5
  generalize nameV s0 = K
  generalize nameV sb = K'
  kernel_rfl
theorem m6 : addV M5 sc = (M6, true) := by
  rw [add_of chk_sc (show allowV M5.lim (nameV sc) sc.time = (W6 (nameV s0) (nameV sb) (nameV sc), true) from a6 nc ncb)]
  unfold M5 M6
  generalize nameV s0 = K
  generalize nameV sb = K'
  generalize nameV sc = K''
  kernel_rfl
end Go.Proofs.YtagkgekpfgepoaaDoor
namespace Go.Proofs.YtagkgekpfgepoaaDoor
set_option linter.unusedVariables false
set_option linter.unusedSimpArgs false
set_option maxRecDepth 20000
set_option maxHeartbeats 8000000
open Go
theorem fit_s (t : Bs) (ht : t.length ≤ 1000) : Fit (sampleR t) ∧ stepsR (sampleR t) ≤ 2000 := by
  refine ⟨⟨by simp [sampleR, rootS], by show t.length < _; omega, by simp [sampleR], ?_, by simp [sampleR]⟩, ?_⟩
  · intro s hs
    simp only [sampleR, List.mem_cons, List.not_mem_nil, or_false] at hs
    rcases hs with rfl | rfl <;> simp
  · simp only [stepsR, sampleR, rootS, List.length_cons, List.length_nil, List.map_cons, List.map_nil, List.sum_cons, List.sum_nil]
    omega
theorem eq_parse {r : RecV} (h1 : chkV r = 0) (h2 : textB r = exS) : eqR r s0 = true := by
  rw [← strip_eq_iff]
  exact text_inj h1 chk_s0 (by rw [h2, txt_s0])
theorem room0 : Room M0 := ⟨by decide, by decide, by decide, by simp [M0]⟩
theorem room1 : Room M1 := ⟨by simp [M1, W1], by simp [M1, W1], by simp [M1], by simp [M1, sampleR]⟩
theorem room2 : Room M2 := ⟨by simp [M2, W2], by simp [M2, W2], by simp [M2], by simp [M2, sampleR]⟩
theorem room3 : Room M3 := ⟨by simp [M3, W3], by simp [M3, W3], by simp [M3], by simp [M3, sampleR]⟩
theorem room4 : Room M4 := ⟨by simp [M4, W4], by simp [M4, W4], by simp [M4], by simp [M4, sampleR]⟩
theorem room5 : Room M5 := ⟨by simp [M5, W5], by simp [M5, W5], by simp [M5], by simp [M5, sampleR]⟩
theorem room6 : Room M6 := ⟨by simp [M6, W6], by simp [M6, W6], by simp [M6], by simp [M6, sampleR]⟩
theorem one_of {c : List RecV} {x : RecV} (h : c.map RecV.strip = [x].map RecV.strip) : ∃ y, c = [y] ∧ y.strip = x.strip := by
  match c, h with
  | [y], h => exact ⟨y, rfl, by simpa using h⟩
  | [], h => simp at h
  | _ :: _ :: _, h => simp at h
theorem two_of {c : List RecV} {x x' : RecV} (h : c.map RecV.strip = [x, x'].map RecV.strip) : ∃ y y', c = [y, y'] ∧ y.strip = x.strip ∧ y'.strip = x'.strip := by
  match c, h with
  | [y, y'], h => exact ⟨y, y', rfl, by simpa using h⟩
  | [], h => simp at h
  | [_], h => simp at h
  | _ :: _ :: _ :: _, h => simp at h
def D8x (C : CallP) (I : CallI) (n : Nat) (ex t0 : Bs) (σ : Sto) : Option Out :=
  @bnd (callPS C 23 [(.str t0)]) ⟨fun x0 =>
  @bnd (jwrSem 0 9 [(.agg [(.int .i64 0), (.int .i64 0), (.bool false), (.bool false), (.str []), (.str []), (.str []), .nils, (.int .i64 0)]), x0]) ⟨fun x1 =>
  @bnd (fldSem 0 (some 9) [x1]) ⟨fun x2 =>
  @bnd (callPS C 24 [x2]) ⟨fun x3 =>
  @bnd (extSem 0 [x3]) ⟨fun x4 =>
  @bnd (extSem 1 [x3]) ⟨fun x5 =>
  @bnd (callPS C 25 [x4]) ⟨fun x6 =>
  @bnd (extSem 0 [x6]) ⟨fun x7 =>
  @bnd (extSem 1 [x6]) ⟨fun x8 =>
  @bnd (jwrSem 0 9 [(.agg [(.int .i64 0), (.int .i64 0), (.bool false), (.bool false), (.str []), (.str []), (.str []), .nils, (.int .i64 0)]), x7]) ⟨fun x9 =>
  @bnd (bin2Sem .neq [x4, (.str ex)]) ⟨fun x10 =>
  @bnd (@wnP x10 false ⟨mvSem [x5]⟩) ⟨fun x11 =>
  @bnd (@wnP x10 false ⟨bin2Sem .neq [x11, (.int .i64 0)]⟩) ⟨fun x12 =>
  @bnd (pickSem [x10, (.bool true), x12]) ⟨fun x13 =>
  @bnd (@wnP x13 false ⟨mvSem [x8]⟩) ⟨fun x14 =>
  @bnd (@wnP x13 false ⟨bin2Sem .neq [x14, (.int .i64 0)]⟩) ⟨fun x15 =>
  @bnd (pickSem [x13, (.bool true), x15]) ⟨fun x16 =>
  @bnd (@wnP x16 false ⟨fldSem 0 (some 9) [x9]⟩) ⟨fun x17 =>
  @bnd (@wnP x16 false ⟨POp.sem C [x17] (.bslice false 9)⟩) ⟨fun x18 =>
  @bnd (@wnP x16 false ⟨fldSem 0 (some 9) [x1]⟩) ⟨fun x19 =>
  @bnd (@wnP x16 false ⟨POp.sem C [x19] (.bslice false 9)⟩) ⟨fun x20 =>
  @bnd (@wnP x16 false ⟨callPS C 17 [x18, x20]⟩) ⟨fun x21 =>
  @bnd (@wnP x16 false ⟨unSem .not [x21]⟩) ⟨fun x22 =>
  @bnd (pickSem [x16, (.bool true), x22]) ⟨fun x23 =>
  @itK x23 ⟨retJ (resEx [(.bool false)]) σ⟩ ⟨@bns (callIS I 10 σ [(.int .i64 2), (.int .i64 2), (.int .i64 10)]) ⟨fun x24 σ =>
  @bnd (isnilSem 1 false [x24]) ⟨fun x25 =>
  @bns (@wnS x25 false σ ⟨callIS I 10 σ [(.int .i64 0), (.int .i64 2), (.int .i64 10)]⟩) ⟨fun x26 σ =>
  @bnd (@wnP x25 false ⟨isnilSem 1 true [x26]⟩) ⟨fun x27 =>
  @bnd (pickSem [x25, (.bool true), x27]) ⟨fun x28 =>
  @bns (@wnS x28 false σ ⟨callIS I 10 σ [(.int .i64 2), (.int .i64 0), (.int .i64 10)]⟩) ⟨fun x29 σ =>
  @bnd (@wnP x28 false ⟨isnilSem 1 true [x29]⟩) ⟨fun x30 =>
  @bnd (pickSem [x28, (.bool true), x30]) ⟨fun x31 =>
  @itK x31 ⟨retJ (resEx [(.bool false)]) σ⟩ ⟨@bnd (jwrSem 0 1 [x1, (.int .i64 0)]) ⟨fun x32 =>
  @bnd (jwrSem 8 1 [x32, (.int .i64 1)]) ⟨fun x33 =>
  @bnd (fldSem 0 (some 9) [x33]) ⟨fun x34 =>
  @bns (callIS I 15 σ [x24, x34]) ⟨fun x35 σ =>
  @bnd (fldSem 0 (some 9) [x33]) ⟨fun x36 =>
  @bns (callIS I 15 σ [x24, x36]) ⟨fun x37 σ =>
  @bnd (fldSem 0 (some 9) [x33]) ⟨fun x38 =>
  @bns (callIS I 15 σ [x24, x38]) ⟨fun x39 σ =>
  @bns (callIS I 12 σ [x24]) ⟨fun x40 σ =>
  @bnd (unSem .not [x35]) ⟨fun x41 =>
  @bnd (@wnP x41 false ⟨mvSem [x37]⟩) ⟨fun x42 =>
  @bnd (pickSem [x41, (.bool true), x42]) ⟨fun x43 =>
  @bnd (@wnP x43 false ⟨mvSem [x39]⟩) ⟨fun x44 =>
  @bnd (pickSem [x43, (.bool true), x44]) ⟨fun x45 =>
  @bnd (@wnP x45 false ⟨mvSem [x40]⟩) ⟨fun x46 =>
  @bnd (@wnP x45 false ⟨lenSlSem [x46]⟩) ⟨fun x47 =>
  @bnd (@wnP x45 false ⟨bin2Sem .neq [x47, (.int .i64 1)]⟩) ⟨fun x48 =>
  @bnd (pickSem [x45, (.bool true), x48]) ⟨fun x49 =>
  @bnd (@wnP x49 false ⟨mvSem [x40]⟩) ⟨fun x50 =>
  @bnd (@wnP x49 false ⟨idxSSem 9 [x50, (.int .i64 0)]⟩) ⟨fun x51 =>
  @bnd (@wnP x49 false ⟨offSem 8 [x51]⟩) ⟨fun x52 =>
  @bns (@wnS x49 false σ ⟨ldOSem σ none [x52]⟩) ⟨fun x53 σ =>
  @bnd (@wnP x49 false ⟨bin2Sem .neq [x53, (.int .i64 2)]⟩) ⟨fun x54 =>
  @bnd (pickSem [x49, (.bool true), x54]) ⟨fun x55 =>
  @itK x55 ⟨retJ (resEx [(.bool false)]) σ⟩ ⟨@bnd (jwrSem 0 1 [x33, (.int .i64 10)]) ⟨fun x56 =>
  @bnd (fldSem 0 (some 9) [x56]) ⟨fun x57 =>
  @bns (callIS I 15 σ [x24, x57]) ⟨fun x58 σ =>
  @bnd (callPS C 23 [(.str [98])]) ⟨fun x59 =>
  @bns (callIS I 15 σ [x24, x59]) ⟨fun x60 σ =>
  @bnd (callPS C 23 [(.str [99])]) ⟨fun x61 =>
  @bns (callIS I 15 σ [x24, x61]) ⟨fun x62 σ =>
  @bns (callIS I 16 σ [x24]) ⟨fun x63 σ =>
  @bnd (extSem 0 [x63]) ⟨fun x64 =>
  @bnd (extSem 1 [x63]) ⟨fun x65 =>
  @bns (callIS I 12 σ [x24]) ⟨fun x66 σ =>
  @bnd (unSem .not [x58]) ⟨fun x67 =>
  @bnd (@wnP x67 true ⟨mvSem [x62]⟩) ⟨fun x68 =>
  @bnd (pickSem [x67, x68, (.bool false)]) ⟨fun x69 =>
  @bnd (@wnP x69 true ⟨mvSem [x64]⟩) ⟨fun x70 =>
  @bnd (@wnP x69 true ⟨bin2Sem .eql [x70, (.int .i64 1)]⟩) ⟨fun x71 =>
  @bnd (pickSem [x69, x71, (.bool false)]) ⟨fun x72 =>
  @bnd (@wnP x72 true ⟨mvSem [x65]⟩) ⟨fun x73 =>
  @bnd (@wnP x72 true ⟨bin2Sem .eql [x73, (.int .i64 3)]⟩) ⟨fun x74 =>
  @bnd (pickSem [x72, x74, (.bool false)]) ⟨fun x75 =>
  @bnd (@wnP x75 true ⟨mvSem [x66]⟩) ⟨fun x76 =>
  @bnd (@wnP x75 true ⟨lenSlSem [x76]⟩) ⟨fun x77 =>
  @bnd (@wnP x75 true ⟨bin2Sem .eql [x77, (.int .i64 2)]⟩) ⟨fun x78 =>
  @bnd (pickSem [x75, x78, (.bool false)]) ⟨fun x79 =>
  @bnd (@wnP x79 true ⟨mvSem [x66]⟩) ⟨fun x80 =>
  @bnd (@wnP x79 true ⟨idxSSem 9 [x80, (.int .i64 0)]⟩) ⟨fun x81 =>
  @bnd (@wnP x79 true ⟨offSem 5 [x81]⟩) ⟨fun x82 =>
  @bns (@wnS x79 true σ ⟨ldOSem σ none [x82]⟩) ⟨fun x83 σ =>
  @bnd (@wnP x79 true ⟨bin2Sem .eql [x83, (.str [98])]⟩) ⟨fun x84 =>
  @bnd (pickSem [x79, x84, (.bool false)]) ⟨fun x85 =>
  @bnd (@wnP x85 true ⟨mvSem [x66]⟩) ⟨fun x86 =>
  @bnd (@wnP x85 true ⟨idxSSem 9 [x86, (.int .i64 1)]⟩) ⟨fun x87 =>
  @bnd (@wnP x85 true ⟨offSem 5 [x87]⟩) ⟨fun x88 =>
  @bns (@wnS x85 true σ ⟨ldOSem σ none [x88]⟩) ⟨fun x89 σ =>
  @bnd (@wnP x85 true ⟨bin2Sem .eql [x89, (.str [99])]⟩) ⟨fun x90 =>
  @bnd (pickSem [x85, x90, (.bool false)]) ⟨fun x91 =>
  retJ (resEx [x91]) σ⟩⟩⟩⟩⟩⟩⟩⟩⟩⟩⟩⟩⟩⟩⟩⟩⟩⟩⟩⟩⟩⟩⟩⟩⟩⟩⟩⟩⟩⟩⟩⟩⟩⟩⟩⟩⟩⟩⟩⟩⟩⟩⟩⟩⟩⟩⟩⟩⟩⟩⟩⟩⟩⟩⟩⟩⟩⟩⟩⟩⟩⟩⟩⟩⟩⟩⟩⟩⟩⟩⟩⟩⟩⟩⟩⟩⟩⟩⟩⟩⟩⟩⟩⟩⟩⟩⟩⟩⟩⟩⟩⟩⟩⟩⟩
theorem d8x (C : CallP) (I : CallI) (n : Nat) (σ : Sto) : D9 C I n σ = D8x C I n exS fileS σ := rfl
theorem awake_run {n : Nat} {EX T0 : Bs} {S0 R0 R1 R2 SB SC q : RecV} {σ1 σ2 σ3 σ4 σ5 σ6 σ7 σ8 σ9 σ10 σ12 : Sto} {w7 w12 : DVal}
    (h26 : cpJ PR n 23 [.str T0] = some S0.d) (h13 : cpJ PR n 24 [S0.d] = some (.tup [.str EX, .int .i64 0])) (h15 : cpJ PR n 25 [.str EX] = some (.tup [q.d, .int .i64 0]))
    (sl1 : POp.sem (cpJ PR n) [q.d] (.bslice false 9) = some (.slice false 1 9 [q.row])) (sl2 : POp.sem (cpJ PR n) [S0.d] (.bslice false 9) = some (.slice false 1 9 [S0.row])) (h16 : cpJ PR n 17 [.slice false 1 9 [q.row], .slice false 1 9 [S0.row]] = some (.bool true))
    (b1 : ciJ PR n 10 [.int .i64 2, .int .i64 2, .int .i64 10] emptySto = some (.obj 2 0, σ1)) (b2 : ciJ PR n 10 [.int .i64 0, .int .i64 2, .int .i64 10] σ1 = some (.nilp, σ2)) (b3 : ciJ PR n 10 [.int .i64 2, .int .i64 0, .int .i64 10] σ2 = some (.nilp, σ3))
    (w1 : jwrSem 0 1 [S0.d, .int .i64 0] = some R0.d) (w2 : jwrSem 8 1 [R0.d, .int .i64 1] = some R1.d) (w3 : jwrSem 0 1 [R1.d, .int .i64 10] = some R2.d)
    (c4 : ciJ PR n 15 [.obj 2 0, R1.d] σ3 = some (.bool true, σ4)) (c5 : ciJ PR n 15 [.obj 2 0, R1.d] σ4 = some (.bool false, σ5)) (c6 : ciJ PR n 15 [.obj 2 0, R1.d] σ5 = some (.bool false, σ6))
    (c7 : ciJ PR n 12 [.obj 2 0] σ6 = some (w7, σ7)) (vv7 : w7.okVal = true) (len7 : lenSlSem [w7] = some (.int .i64 1)) {a7 : Nat} (idx7 : idxSSem 9 [w7, .int .i64 0] = some (.obj a7 0)) (ld7 : ldOSem σ7 none [.obj a7 8] = some (.int .i64 2, σ7))
    (c8 : ciJ PR n 15 [.obj 2 0, R2.d] σ7 = some (.bool false, σ8)) (hsb : cpJ PR n 23 [.str [98]] = some SB.d) (c9 : ciJ PR n 15 [.obj 2 0, SB.d] σ8 = some (.bool true, σ9))
    (hsc : cpJ PR n 23 [.str [99]] = some SC.d) (c10 : ciJ PR n 15 [.obj 2 0, SC.d] σ9 = some (.bool true, σ10)) (c11 : ciJ PR n 16 [.obj 2 0] σ10 = some (.tup [.int .i64 1, .int .i64 3], σ10))
    (c12 : ciJ PR n 12 [.obj 2 0] σ10 = some (w12, σ12)) (len12 : lenSlSem [w12] = some (.int .i64 2)) {a12 : Nat} (idx12 : idxSSem 9 [w12, .int .i64 0] = some (.obj a12 0)) (idx13 : idxSSem 9 [w12, .int .i64 1] = some (.obj a12 9)) (t1 : ldOSem σ12 none [.obj a12 5] = some (.str [98], σ12)) (t2 : ldOSem σ12 none [.obj a12 14] = some (.str [99], σ12)) :
    finP (D8x (cpJ PR n) (ciJ PR n) n EX T0 emptySto) = some (.bool true) := by
  simp -implicitDefEqProofs [D8x, h26, h13, h15, sl1, sl2, h16, b1, b2, b3, w1, w2, w3, c4, c5, c6, c7, len7, idx7, ld7, c8, hsb, hsc, c9, c10, c11, c12, len12, idx12, idx13, t1, t2, -jwrSem.eq_1, -fldSem.eq_1, -RecV_set_time, -RecV_set_count]
theorem e9 {n : Nat} (hn : 1000000000001 ≤ n) : cpJ PR n 9 [] = some (.bool true) := by
  obtain ⟨n, rfl⟩ : ∃ m, n = m + 1 := ⟨n - 1, by omega⟩
  have h26 := e23 (n := n) (by omega) fileS
  have hfs : Fit s0 ∧ stepsR s0 ≤ 2000 := fit_s fileS (by decide)
  have h13 := e24 (n := n) s0 hfs.1 (by have := hfs.2; omega)
  rw [chk_s0, if_pos rfl, txt_s0] at h13
  obtain ⟨q, hq1, hq2, h15⟩ : ∃ r : RecV, chkV r = 0 ∧ textB r = exS ∧ cpJ PR n 25 [.str exS] = some (.tup [r.d, .int .i64 0]) := by
    rcases e25 (n := n) (by omega) exS (by decide) with h | ⟨h, -⟩
    · exact h
    · exact absurd txt_s0 (h s0 chk_s0)
  have ok := chk_ok hq1
  have h16 := e16one (n := n) q s0 (by have := ok.few; omega) (by omega)
  rw [eq_parse hq1 hq2] at h16
  have sl1 := RecV_slice (cpJ PR n) q
  have sl2 := RecV_slice (cpJ PR n) s0
  -- logs
  obtain ⟨-, σ1, b1, g1, -⟩ | ⟨bad, -⟩ := e10 (n := n) (by omega) emptySto 2 2 10
  rotate_left
  · exact absurd bad (by decide)
  obtain ⟨bad, -⟩ | ⟨-, σ2, b2, k2⟩ := e10 (n := n) (by omega) σ1 0 2 10
  · exact absurd bad (by decide)
  obtain ⟨bad, -⟩ | ⟨-, σ3, b3, k3⟩ := e10 (n := n) (by omega) σ2 2 0 10
  · exact absurd bad (by decide)
  have b1 : ciJ PR n 10 [.int .i64 2, .int .i64 2, .int .i64 10] emptySto = some (.obj 2 0, σ1) := b1
  have g1 : LogS σ1 2 1 0 .nils M0 := ⟨_, g1, .refl _⟩
  have noA : ∀ i, arr .nils i → ¬ (fun _ : Nat => False) i := fun i _ h => h
  have g3 : LogS σ3 2 1 0 .nils M0 := (g1.keep k2 (fun h => h) (fun h => h) (fun h => h) noA).keep k3 (fun h => h) (fun h => h) (fun h => h) noA
  -- records
  have f1 : Fit r1 := ⟨hfs.1.src, hfs.1.tgt, hfs.1.cls, hfs.1.perms, hfs.1.small⟩
  have st1 : stepsR r1 ≤ 2000 := hfs.2
  obtain ⟨σ4, vv4, c4, g4, -⟩ := e23s g3 (n := n) (by omega) r1 f1 (by omega) room0
  rw [m1] at c4 g4
  obtain ⟨σ5, vv5, c5, g5, -⟩ := e23s g4 (n := n) (by omega) r1 f1 (by omega) room1
  rw [m2] at c5 g5
  obtain ⟨σ6, vv6, c6, g6, -⟩ := e23s g5 (n := n) (by omega) r1 f1 (by omega) room2
  rw [m3] at c6 g6
  obtain ⟨w7, σ7, l22, c7, -, o7, p7, g7⟩ := e27s g6 (n := n) (by omega) room3
  obtain ⟨y, rfl, hy⟩ := one_of (x := { r1 with count := 2 }) p7
  have yc : y.count = 2 := count_eq hy
  obtain ⟨-, bad⟩ | ⟨a7, -, rfl, -, o7⟩ := o7
  · cases bad
  have len7 : lenSlSem [.mslice 9 a7 0 1 none] = some (.int .i64 1) := rfl
  have idx7 : idxSSem 9 [.mslice 9 a7 0 1 none, .int .i64 0] = some (.obj a7 0) := rfl
  have ld7 : ldOSem σ7 none [.obj a7 8] = some (.int .i64 2, σ7) := by
    have := o7.ldc (i := 0) (x := y) rfl
    rw [yc] at this
    exact this
  have f2 : Fit r2 := ⟨hfs.1.src, hfs.1.tgt, hfs.1.cls, hfs.1.perms, hfs.1.small⟩
  have st2 : stepsR r2 ≤ 2000 := hfs.2
  obtain ⟨σ8, vv8, c8, g8, -⟩ := e23s g7 (n := n) (by omega) r2 f2 (by omega) room3
  rw [m4] at c8 g8
  have h26b := e23 (n := n) (by omega) [98]
  have h26c := e23 (n := n) (by omega) [99]
  have fb : Fit sb ∧ stepsR sb ≤ 2000 := fit_s [98] (by decide)
  have fc : Fit sc ∧ stepsR sc ≤ 2000 := fit_s [99] (by decide)
  obtain ⟨σ9, vv9, c9, g9, -⟩ := e23s g8 (n := n) (by omega) sb fb.1 (by have := fb.2; omega) room4
  rw [m5] at c9 g9
  obtain ⟨σ10, vv10, c10, g10, -⟩ := e23s g9 (n := n) (by omega) sc fc.1 (by have := fc.2; omega) room5
  rw [m6] at c10 g10
  have c11 := e28s g10 (n := n) (by omega)
  obtain ⟨w12, σ12, l36, c12, -, o12, p12, -⟩ := e27s g10 (n := n) (by omega) room6
  obtain ⟨x1, x2, rfl, hx1, hx2⟩ := two_of (x := sb) (x' := sc) p12
  have t1 : x1.tgt = [98] := by
    have := congrArg RecV.tgt hx1
    exact this
  have t2 : x2.tgt = [99] := by
    have := congrArg RecV.tgt hx2
    exact this
  obtain ⟨-, bad⟩ | ⟨a12, -, rfl, -, o12⟩ := o12
  · cases bad
  have len12 : lenSlSem [.mslice 9 a12 0 2 none] = some (.int .i64 2) := rfl
  have idx12 : idxSSem 9 [.mslice 9 a12 0 2 none, .int .i64 0] = some (.obj a12 0) := rfl
  have idx13 : idxSSem 9 [.mslice 9 a12 0 2 none, .int .i64 1] = some (.obj a12 9) := rfl
  have lt1 : ldOSem σ12 none [.obj a12 5] = some (.str [98], σ12) := by
    rw [ld_obj _ o12.obj o12.lt, ← t1]; rfl
  have lt2 : ldOSem σ12 none [.obj a12 14] = some (.str [99], σ12) := by
    rw [ld_obj _ o12.obj o12.lt, ← t2]; rfl
  rw [u9, d8x]
  exact awake_run h26 h13 h15 sl1 sl2 h16 b1 b2 b3 (RecV_set_time s0 0) (RecV_set_count { s0 with time := 0 } 1) (RecV_set_time r1 10) c4 c5 c6 c7 rfl len7 idx7 ld7 c8 h26b c9 h26c c10 c11 c12 len12 idx12 idx13 lt1 lt2
end Go.Proofs.YtagkgekpfgepoaaDoor
namespace Go.Proofs.YtagkgekpfgepoaaDoor
set_option linter.unusedVariables false
set_option linter.unusedSimpArgs false
set_option maxRecDepth 20000
set_option maxHeartbeats 2000000
open Go
theorem setB_len (k : Bs) (b : BktV) (l : List (Bs × BktV)) : (setB k b l).length ≤ l.length + 1 := by
  unfold setB
  split <;> simp
theorem allowV_int (L : LimV) (k : Bs) (t : Int) : (allowV L k t).1.interval = L.interval := by
  unfold allowV
  (repeat' split) <;> rfl
theorem allowV_bk (L : LimV) (k : Bs) (t : Int) : (allowV L k t).1.bk.length ≤ L.bk.length + 1 := by
  unfold allowV
  (repeat' split) <;> exact setB_len _ _ _
theorem bump_len (l : List RecV) (i : Nat) (c : Int) : (bumpL l i c).length = l.length := by
  unfold bumpL
  split <;> simp
theorem bump_mem {l : List RecV} {i : Nat} {c : Int} {x : RecV} (h : x ∈ bumpL l i c) : x ∈ l ∨ ∃ y, l[i]? = some y ∧ x = { y with count := w64 (y.count + c) } := by
  unfold bumpL at h
  split at h
  · rename_i y hy
    rcases List.mem_or_eq_of_mem_set h with h | h
    · exact .inl h
    · exact .inr ⟨y, hy, h⟩
  · exact .inl h
structure Few (M : LogV) (k : Nat) : Prop where
  int : M.lim.interval ≠ 0
  bk : M.lim.bk.length ≤ k
  recs : M.recs.length ≤ k
  perms : ∀ x ∈ M.recs, x.perms.l.length ≤ 1000
theorem Few.room {M : LogV} {k : Nat} (h : Few M k) (hk : k ≤ 1000) : Room M :=
  ⟨h.int, by have := h.bk; omega, by have := h.recs; omega, fun x hx => by have := h.perms x hx; omega⟩
theorem Few.clear {M : LogV} {k : Nat} (h : Few M k) : Few { M with recs := [] } (k + 1) :=
  ⟨h.int, by have := h.bk; show M.lim.bk.length ≤ _; omega, by simp, by simp⟩
theorem Few.add {M : LogV} {k : Nat} (h : Few M k) {r : RecV} (hr : r.perms.l.length ≤ 1000) : Few (addV M r).1 (k + 1) := by
  have hi := allowV_int M.lim (nameV r) r.time
  have hb := allowV_bk M.lim (nameV r) r.time
  have h1 := h.int
  have h2 := h.bk
  have h3 := h.recs
  have hpr : ∀ x ∈ M.recs ++ [r], x.perms.l.length ≤ 1000 := fun x hx => by
    rcases List.mem_append.1 hx with hx | hx
    · exact h.perms x hx
    · simp only [List.mem_singleton] at hx; rw [hx]; exact hr
  unfold addV
  split
  · split
    · split
      · refine ⟨by rw [← hi] at h1; exact h1, by show (allowV M.lim (nameV r) r.time).1.bk.length ≤ _; omega, by show (bumpL _ _ _).length ≤ _; rw [bump_len]; omega, fun x hx => ?_⟩
        rcases bump_mem hx with hx | ⟨y, hy, rfl⟩
        · exact h.perms x hx
        · exact h.perms y (List.mem_of_getElem? hy)
      · unfold pushV
        split
        · refine ⟨by rw [← hi] at h1; exact h1, by show (allowV M.lim (nameV r) r.time).1.bk.length ≤ _; omega, by show ((M.recs ++ [r]).drop 1).length ≤ _; simp; omega, fun x hx => hpr x (List.mem_of_mem_drop hx)⟩
        · exact ⟨by rw [← hi] at h1; exact h1, by show (allowV M.lim (nameV r) r.time).1.bk.length ≤ _; omega, by show (M.recs ++ [r]).length ≤ _; simp; omega, hpr⟩
    · exact ⟨by rw [← hi] at h1; exact h1, by show (allowV M.lim (nameV r) r.time).1.bk.length ≤ _; omega, by show M.recs.length ≤ _; omega, h.perms⟩
  · exact ⟨h1, by show M.lim.bk.length ≤ _; omega, by show M.recs.length ≤ _; omega, h.perms⟩
def totR : List RecV → Int
  | [] => 0
  | x :: l => x.count + totR l
theorem tot_app : ∀ (a b : List RecV), totR (a ++ b) = totR a + totR b
  | [], b => by simp [totR]
  | x :: a, b => by simp only [List.cons_append, totR, tot_app a b]; omega
theorem tot_nonneg : ∀ {l : List RecV}, (∀ x ∈ l, 1 ≤ x.count) → 0 ≤ totR l
  | [], _ => by simp [totR]
  | x :: l, h => by
    have h1 := h x (by simp)
    have h2 := tot_nonneg (l := l) fun y hy => h y (by simp [hy])
    simp only [totR]
    omega
theorem tot_ge : ∀ {l : List RecV}, (∀ x ∈ l, 1 ≤ x.count) → ∀ x ∈ l, x.count ≤ totR l
  | [], _, x, hx => by simp at hx
  | y :: l, h, x, hx => by
    have h1 := h y (by simp)
    have h2 := tot_nonneg (l := l) fun y hy => h y (by simp [hy])
    simp only [totR]
    rcases List.mem_cons.1 hx with rfl | hx
    · omega
    · have := tot_ge (l := l) (fun y hy => h y (by simp [hy])) x hx
      omega
theorem tot_set : ∀ {l : List RecV} {i : Nat} {x : RecV} (c : Int), l[i]? = some x → totR (l.set i { x with count := x.count + c }) = totR l + c
  | [], i, x, c, h => by simp at h
  | y :: l, 0, x, c, h => by
    simp only [List.getElem?_cons_zero, Option.some.injEq] at h
    subst h
    simp only [List.set_cons_zero, totR]
    omega
  | y :: l, i + 1, x, c, h => by
    have := tot_set (l := l) (i := i) c (by simpa using h)
    simp only [List.set_cons_succ, totR, this]
    omega
theorem w64_id {x : Int} (h0 : 0 ≤ x) (h1 : x ≤ 1000000000000) : w64 x = x := wrap_i64 (by omega) (by omega)
structure Cnt (M : LogV) (T : Int) : Prop where
  dr : 0 ≤ M.dropped
  rm : 0 ≤ M.removed
  one : ∀ x ∈ M.recs, 1 ≤ x.count
  sum : totR M.recs + M.dropped + M.removed = T
theorem Cnt.clear {M : LogV} {T : Int} (h : Cnt M T) : Cnt { M with recs := [] } (T - totR M.recs) :=
  ⟨h.dr, h.rm, by simp, by have := h.sum; show totR [] + M.dropped + M.removed = _; simp only [totR]; omega⟩
theorem Cnt.add {M : LogV} {T : Int} (h : Cnt M T) {r : RecV} (hT : T ≤ 500000000000) (hr : chkV r = 0 → 1 ≤ r.count ∧ r.count ≤ 2147483647) : Cnt (addV M r).1 (if chkV r = 0 then T + r.count else T) := by
  have hd := h.dr
  have hm := h.rm
  have hs := h.sum
  have hn := tot_nonneg h.one
  unfold addV
  split
  · rename_i hc
    obtain ⟨r1, r2⟩ := hr hc
    split
    · split
      · rename_i hf
        rcases find_cases r M.recs 0 with ⟨hf1, -⟩ | ⟨j, x, hf1, hf2, -⟩
        · rw [hf1] at hf; omega
        · have hx1 := h.one x (List.mem_of_getElem? hf2)
          have hx2 := tot_ge h.one x (List.mem_of_getElem? hf2)
          have hb : bumpL M.recs (findR r M.recs 0).toNat r.count = M.recs.set j { x with count := x.count + r.count } := by
            rw [hf1]
            simp only [bumpL, Nat.zero_add, Int.toNat_natCast, hf2]
            rw [w64_id (by omega) (by omega)]
          refine ⟨hd, hm, fun y hy => ?_, ?_⟩
          · have hy : y ∈ bumpL M.recs (findR r M.recs 0).toNat r.count := hy
            rw [hb] at hy
            rcases List.mem_or_eq_of_mem_set hy with hy | hy
            · exact h.one y hy
            · rw [hy]; show 1 ≤ x.count + r.count; omega
          · show totR (bumpL _ _ _) + M.dropped + M.removed = _
            rw [hb, tot_set _ hf2]
            omega
      · have hone : ∀ x ∈ M.recs ++ [r], 1 ≤ x.count := fun x hx => by
          rcases List.mem_append.1 hx with hx | hx
          · exact h.one x hx
          · simp only [List.mem_singleton] at hx; rw [hx]; exact r1
        have htot : totR (M.recs ++ [r]) = totR M.recs + r.count := by rw [tot_app]; simp [totR]
        unfold pushV
        split
        · have hhead : totR ((M.recs ++ [r]).drop 1) + headC (M.recs ++ [r]) = totR (M.recs ++ [r]) := by
            cases hh : M.recs ++ [r] with
            | nil => simp at hh
            | cons a b => simp only [List.drop_succ_cons, List.drop_zero, headC, totR]; omega
          have hh1 : 1 ≤ headC (M.recs ++ [r]) := by
            cases hh : M.recs ++ [r] with
            | nil => simp at hh
            | cons a b => rw [hh] at hone; exact hone a (by simp)
          have hh2 : 0 ≤ totR ((M.recs ++ [r]).drop 1) := tot_nonneg fun x hx => hone x (List.mem_of_mem_drop hx)
          have e : w64 (M.removed + headC (M.recs ++ [r])) = M.removed + headC (M.recs ++ [r]) := w64_id (by omega) (by omega)
          refine ⟨hd, ?_, fun x hx => hone x (List.mem_of_mem_drop hx), ?_⟩
          · show 0 ≤ w64 (M.removed + headC (M.recs ++ [r]))
            rw [e]; omega
          · show totR ((M.recs ++ [r]).drop 1) + M.dropped + w64 (M.removed + headC (M.recs ++ [r])) = _
            rw [e]; omega
        · exact ⟨hd, hm, hone, by show totR (M.recs ++ [r]) + M.dropped + M.removed = _; rw [htot]; omega⟩
    · have e : w64 (M.dropped + r.count) = M.dropped + r.count := w64_id (by omega) (by omega)
      exact ⟨by show 0 ≤ w64 (M.dropped + r.count); rw [e]; omega, hm, h.one, by show totR M.recs + w64 (M.dropped + r.count) + M.removed = _; rw [e]; omega⟩
  · exact ⟨hd, hm, h.one, hs⟩
theorem same_symm (a b : RecV) : sameV a b = sameV b a := by
  cases h : sameV b a with
  | true =>
    rw [same_iff] at h ⊢
    exact ⟨h.1.symm, h.2.1.symm, h.2.2.1.symm, h.2.2.2.1.symm, h.2.2.2.2.1.symm, h.2.2.2.2.2.symm⟩
  | false =>
    cases h2 : sameV a b with
    | false => rfl
    | true =>
      rw [same_iff] at h2
      have := same_iff.2 ⟨h2.1.symm, h2.2.1.symm, h2.2.2.1.symm, h2.2.2.2.1.symm, h2.2.2.2.2.1.symm, h2.2.2.2.2.2.symm⟩
      rw [h] at this
      cases this
theorem ok_chk {r : RecV} (h : RecOk r) : chkV r = 0 := by
  have hr : rangeOk r = true := by
    simp only [rangeOk, Bool.and_eq_true, decide_eq_true_eq]
    exact ⟨⟨⟨⟨⟨h.time.1, h.time.2⟩, h.seq.1⟩, h.seq.2⟩, h.count.1⟩, h.count.2⟩
  have h1 := h.some
  have h2 := h.few
  unfold chkV
  rw [if_pos hr, if_pos (by rw [h.src, h.tgt]; rfl), if_pos h.cls, if_neg (by omega), if_neg (by omega), h.perms]
theorem chk_one {r : RecV} (h : chkV r = 0) : chkV { r with count := 1 } = 0 := by
  have ok := chk_ok h
  exact ok_chk ⟨ok.time, ok.seq, ⟨by show (1 : Int) ≤ 1; omega, by show (1 : Int) ≤ 2147483647; omega⟩, ok.src, ok.tgt, ok.cls, ok.some, ok.few, ok.perms⟩
structure Bnd (M : LogV) : Prop where
  pos : 1 ≤ M.size
  len : (M.recs.length : Int) ≤ M.size
  diff : M.recs.Pairwise fun x y => sameV x y = false
  ok : ∀ x ∈ M.recs, chkV { x with count := 1 } = 0
theorem Bnd.clear {M : LogV} (h : Bnd M) : Bnd { M with recs := [] } := ⟨h.pos, by have := h.len; show (0 : Int) ≤ M.size; omega, by simp, by simp⟩
theorem same_set {x : RecV} (c : Int) (y : RecV) : sameV { x with count := c } y = sameV x y := rfl
theorem pair_set {l : List RecV} {i : Nat} {x : RecV} (c : Int) (hx : l[i]? = some x) (h : l.Pairwise fun x y => sameV x y = false) : (l.set i { x with count := c }).Pairwise fun x y => sameV x y = false := by
  rw [List.pairwise_iff_getElem] at h ⊢
  intro a b ha hb hab
  simp only [List.length_set] at ha hb
  have h1 := h a b ha hb hab
  have hi : ∀ (j : Nat) (hj : j < l.length), i = j → l[j] = x := fun j hj e => by
    subst e
    rw [List.getElem?_eq_getElem hj] at hx
    exact Option.some.inj hx
  simp only [List.getElem_set]
  by_cases e1 : i = a
  · have e2 : i ≠ b := by omega
    rw [if_pos e1, if_neg e2, same_set]
    rw [hi a ha e1] at h1
    exact h1
  · rw [if_neg e1]
    by_cases e2 : i = b
    · rw [if_pos e2, same_symm, same_set, same_symm]
      rw [hi b hb e2] at h1
      exact h1
    · rw [if_neg e2]
      exact h1
theorem Bnd.add {M : LogV} (h : Bnd M) {r : RecV} : Bnd (addV M r).1 ∧ ((addV M r).2 = true → ∃ l, (addV M r).1.recs = l ++ [r]) := by
  have hl := h.len
  unfold addV
  split
  · rename_i hc
    split
    · split
      · rename_i hf
        refine ⟨⟨h.pos, by show ((bumpL _ _ _).length : Int) ≤ M.size; rw [bump_len]; exact hl, ?_, fun x hx => ?_⟩, by simp⟩
        · show (bumpL _ _ _).Pairwise _
          unfold bumpL
          split
          · rename_i x hx
            exact pair_set _ hx h.diff
          · exact h.diff
        · rcases bump_mem hx with hx | ⟨y, hy, rfl⟩
          · exact h.ok x hx
          · exact h.ok y (List.mem_of_getElem? hy)
      · rename_i hf
        have hno : ∀ x ∈ M.recs, sameV x r = false := by
          rcases find_cases r M.recs 0 with ⟨-, h2⟩ | ⟨j, x, hf1, -, -⟩
          · exact h2
          · rw [hf1] at hf; omega
        have hp : (M.recs ++ [r]).Pairwise fun x y => sameV x y = false := by
          rw [List.pairwise_append]
          exact ⟨h.diff, by simp, fun a ha b hb => by simp only [List.mem_singleton] at hb; rw [hb]; exact hno a ha⟩
        have hok : ∀ x ∈ M.recs ++ [r], chkV { x with count := 1 } = 0 := fun x hx => by
          rcases List.mem_append.1 hx with hx | hx
          · exact h.ok x hx
          · simp only [List.mem_singleton] at hx; rw [hx]; exact chk_one hc
        unfold pushV
        split
        · rename_i hgt
          simp only [List.length_append, List.length_cons, List.length_nil] at hgt
          refine ⟨⟨h.pos, by show (((M.recs ++ [r]).drop 1).length : Int) ≤ M.size; simp; omega, hp.sublist (List.drop_sublist _ _), fun x hx => hok x (List.mem_of_mem_drop hx)⟩, fun _ => ?_⟩
          cases hr : M.recs with
          | nil =>
            rw [hr] at hgt
            have := h.pos
            simp at hgt
            omega
          | cons a b => exact ⟨b, rfl⟩
        · rename_i hgt
          simp only [List.length_append, List.length_cons, List.length_nil] at hgt
          exact ⟨⟨h.pos, by show ((M.recs ++ [r]).length : Int) ≤ M.size; simp; omega, hp, hok⟩, fun _ => ⟨M.recs, rfl⟩⟩
    · exact ⟨⟨h.pos, hl, h.diff, h.ok⟩, by simp⟩
  · exact ⟨h, by simp⟩
theorem small_fit {r : RecV} (h : SmallR r) : Fit r ∧ stepsR r ≤ 20000 := by
  obtain ⟨h1, h2, h3, h4, h5⟩ := h
  have hs := sum_le h5
  have hm : r.perms.l.length * 300 ≤ 40 * 300 := Nat.mul_le_mul_right _ h4
  refine ⟨⟨by omega, by omega, by omega, fun s hs => by have := h5 s hs; omega, by omega⟩, ?_⟩
  unfold stepsR
  omega
end Go.Proofs.YtagkgekpfgepoaaDoor
namespace Go.Proofs.YtagkgekpfgepoaaDoor
set_option linter.unusedVariables false
set_option linter.unusedSimpArgs false
set_option maxRecDepth 20000
set_option maxHeartbeats 4000000
open Go
abbrev opsD (z : Zs) (l : List OpV) : DVal := slD z 10 (l.map OpV.row)
def smallOps (l : List OpV) : Bool := decide (l.length ≤ 40) && l.all fun o => smallV o.r
theorem idx_ops {z : Zs} {l : List OpV} {i : Nat} {x : OpV} (h : l[i]? = some x) : idxSSem 10 [opsD z l, .int .i64 i] = some (.elem x.row 0) := by
  rw [idx_slD, if_pos (by omega), Int.toNat_natCast, List.getElem?_map, h]
  rfl
theorem len_ops {z : Zs} {l : List OpV} : lenSlSem [opsD z l] = some (.int .i64 l.length) := by
  rw [len_slD]
  simp
theorem l7 {n : Nat} (z : Zs) (l : List OpV) (hl : l.length ≤ 40) (hn : 100 ≤ n) (q : DVal) (σ : Sto) : ∀ (k i m : Nat), l.length = i + k → k < m →
    iterJ 0 (L7_0 (cpJ PR n) (ciJ PR n) n (opsD z l)) m [.int .i64 i, q] σ = some (.done (.bool ((l.drop i).all fun o => smallV o.r)) σ) := by
  intro k
  have h2 := len_ops (z := z) (l := l)
  have hl1 : (l.length : Int) ≤ 40 := by omega
  induction k with
  | zero =>
    intro i m hi hm
    obtain ⟨m, rfl⟩ : ∃ q, m = q + 1 := ⟨m - 1, by omega⟩
    have hi' : ¬ ((i : Int) < l.length) := by omega
    refine iterJ_done ?_
    rw [List.drop_eq_nil_of_le (by omega)]
    generalize opsD z l = X at *
    generalize (l.length : Int) = K at *
    simp -implicitDefEqProofs [L7_0, B7_0, hi', h2, hl1]
  | succ k ih =>
    intro i m hi hm
    obtain ⟨m, rfl⟩ : ∃ q, m = q + 1 := ⟨m - 1, by omega⟩
    have hlt : i < l.length := by omega
    have hltI : (i : Int) < l.length := by omega
    obtain ⟨x, hx⟩ := get_some hlt
    have hw : IntKind.i64.wrap ((i : Int) + 1) = ((i + 1 : Nat) : Int) := wrap_succ (by omega)
    have g1 := idx_ops (z := z) hx
    have h22 := e22 (n := n) (by omega) x.r
    have ih' := ih (i + 1) m (by omega) (by omega)
    rw [drop_get hx, List.all_cons]
    cases hs : smallV x.r with
    | false =>
      rw [hs] at h22
      refine iterJ_done ?_
      generalize opsD z l = X at *
      generalize (l.length : Int) = K at *
      simp -implicitDefEqProofs [L7_0, B7_0, hltI, h2, hl1, g1, h22]
    | true =>
      rw [hs] at h22
      rw [Bool.true_and, ← ih']
      refine iterJ_next' ?_
      generalize opsD z l = X at *
      generalize (l.length : Int) = K at *
      simp -implicitDefEqProofs [L7_0, B7_0, hltI, h2, hl1, g1, h22, hw]
theorem e7 {n : Nat} (hn : 200 ≤ n) (z : Zs) (l : List OpV) : cpJ PR n 7 [opsD z l] = some (.bool (smallOps l)) := by
  obtain ⟨n, rfl⟩ : ∃ m, n = m + 1 := ⟨n - 1, by omega⟩
  have h2 := len_ops (z := z) (l := l)
  rw [u7]
  unfold smallOps
  by_cases hl : l.length ≤ 40
  · have := l7 (n := n) z l hl (by omega) (.bool false) emptySto l.length 0 n (by omega) (by omega)
    simp only [Int.natCast_zero, List.drop_zero] at this
    rw [decide_eq_true hl, Bool.true_and]
    generalize opsD z l = X at *
    simp -implicitDefEqProofs [D7, this]
  · have hlI : ¬ ((l.length : Int) ≤ 40) := by omega
    have h0 : (0 : Int) < l.length := by omega
    rw [decide_eq_false hl, Bool.false_and]
    obtain ⟨n, rfl⟩ : ∃ m, n = m + 1 := ⟨n - 1, by omega⟩
    generalize opsD z l = X at *
    generalize (l.length : Int) = K at *
    have : iterJ 0 (L7_0 (cpJ PR (n + 1)) (ciJ PR (n + 1)) (n + 1) X) (n + 1) [.int .i64 0, .bool false] emptySto = some (.done (.bool false) emptySto) := by
      refine iterJ_done ?_
      simp -implicitDefEqProofs [L7_0, B7_0, h0, h2, hlI]
    simp -implicitDefEqProofs [D7, this]
theorem e8 {n : Nat} (hn : 1 ≤ n) (x : SetgV) : cpJ PR n 8 [x.d] = some (.bool (newOk x.size x.burst x.interval)) := by
  obtain ⟨n, rfl⟩ : ∃ m, n = m + 1 := ⟨n - 1, by omega⟩
  rw [u8]
  unfold newOk limOk
  by_cases h1 : 1 ≤ x.size <;> by_cases h2 : x.size ≤ 256 <;> by_cases h3 : 1 ≤ x.burst <;> by_cases h4 : x.burst ≤ 1000000 <;> by_cases h5 : 1 ≤ x.interval <;> by_cases h6 : x.interval ≤ 1000000 <;>
    simp -implicitDefEqProofs [D8, h1, h2, h3, h4, h5, h6]
theorem mod_cases (k : Nat) : (((k : Int).tmod 2 == 1) = true ∧ (k : Int).tmod 2 = 1) ∨ (((k : Int).tmod 2 == 1) = false ∧ ¬ (k : Int).tmod 2 = 1) := by
  by_cases h : (k : Int).tmod 2 = 1
  · exact .inl ⟨by rw [h]; rfl, h⟩
  · exact .inr ⟨beq_eq_false_iff_ne.2 h, h⟩
theorem small_ops {l : List OpV} (h : smallOps l = true) : l.length ≤ 40 ∧ ∀ o ∈ l, SmallR o.r := by
  simp only [smallOps, Bool.and_eq_true, decide_eq_true_eq, List.all_eq_true] at h
  exact ⟨h.1, fun o ho => small_of (h.2 o ho)⟩
theorem new_ok {s b i : Int} (h : newOk s b i = true) : 1 ≤ s ∧ 1 ≤ i := by
  simp only [newOk, limOk, Bool.and_eq_true, decide_eq_true_eq] at h
  exact ⟨h.1.2, h.1.1.1.2⟩
theorem log_new {n : Nat} (hn : 10 ≤ n) {s b i : Int} (h : newOk s b i = true) : ∃ σ, ciJ PR n 10 [.int .i64 s, .int .i64 b, .int .i64 i] emptySto = some (.obj 2 0, σ) ∧ LogS σ 2 1 0 .nils ⟨s, 0, 0, [], limNew b i⟩ ∧ Few ⟨s, 0, 0, [], limNew b i⟩ 0 ∧ Cnt ⟨s, 0, 0, [], limNew b i⟩ 0 ∧ Bnd ⟨s, 0, 0, [], limNew b i⟩ := by
  obtain ⟨h1, h2⟩ := new_ok h
  rcases e10 (n := n) (by omega) emptySto s b i with ⟨-, σ, a1, a2, -⟩ | ⟨hf, -⟩
  · exact ⟨σ, a1, ⟨_, a2, .refl _⟩, ⟨by show i ≠ 0; omega, by simp [limNew], by simp, by simp⟩, ⟨by simp, by simp, by simp, by simp [totR]⟩, ⟨h1, by show (0 : Int) ≤ s; omega, by simp, by simp⟩⟩
  · rw [h] at hf; cases hf
end Go.Proofs.YtagkgekpfgepoaaDoor
namespace Go.Proofs.YtagkgekpfgepoaaDoor
set_option linter.unusedVariables false
set_option linter.unusedSimpArgs false
set_option maxRecDepth 20000
set_option maxHeartbeats 4000000
open Go
theorem lookB_none {k : Bs} : ∀ {l : List (Bs × BktV)} {i : Nat}, (∀ e ∈ l, k ≠ e.1) → lookB k l i = none
  | [], _, _ => rfl
  | e :: l, i, h => by
    rw [lookB, if_neg (h e (by simp))]
    exact lookB_none fun x hx => h x (by simp [hx])
theorem lookB_at {k : Bs} : ∀ {l : List (Bs × BktV)} {i j : Nat} {b : BktV}, lookB k l i = some (j, b) → ∃ m, j = i + m ∧ l[m]? = some (k, b)
  | [], _, _, _, h => by simp [lookB] at h
  | e :: l, i, j, b, h => by
    rw [lookB] at h
    split at h
    · rename_i hk
      simp only [Option.some.injEq, Prod.mk.injEq] at h
      obtain ⟨rfl, rfl⟩ := h
      exact ⟨0, by omega, by simp [hk]⟩
    · obtain ⟨m, rfl, h2⟩ := lookB_at h
      exact ⟨m + 1, by omega, by simpa using h2⟩
theorem lookB_no {k : Bs} : ∀ {l : List (Bs × BktV)} {i : Nat}, lookB k l i = none → ∀ e ∈ l, k ≠ e.1
  | [], _, _ => by simp
  | e :: l, i, h => by
    rw [lookB] at h
    split at h
    · cases h
    · rename_i hk
      intro x hx
      rcases List.mem_cons.1 hx with rfl | hx
      · exact hk
      · exact lookB_no h x hx
def Keys1 (l : List (Bs × BktV)) : Prop := (l.map Prod.fst).Nodup
theorem keys_setB {l : List (Bs × BktV)} (h : Keys1 l) (k : Bs) (b : BktV) : Keys1 (setB k b l) := by
  unfold Keys1 setB at *
  cases hl : lookB k l 0 with
  | none =>
    have hn := lookB_no hl
    simp only [List.map_append, List.map_cons, List.map_nil]
    rw [List.nodup_append]
    refine ⟨h, by simp, fun a ha c hc e => ?_⟩
    simp only [List.mem_cons, List.not_mem_nil, or_false] at hc
    obtain ⟨x, hx, rfl⟩ := List.mem_map.1 ha
    exact hn x hx (by rw [← hc, ← e])
  | some r =>
    obtain ⟨j, c⟩ := r
    obtain ⟨m, rfl, hm⟩ := lookB_at hl
    simp only [Nat.zero_add]
    have : (l.set m (k, b)).map Prod.fst = l.map Prod.fst := by
      rw [List.map_set]
      have hm2 : (l.map Prod.fst)[m]? = some k := by rw [List.getElem?_map, hm]; rfl
      refine List.ext_getElem? fun i => ?_
      rw [List.getElem?_set]
      split
      · rename_i e
        subst e
        split
        · exact hm2.symm
        · rename_i hlt
          rw [List.getElem?_eq_none (by omega)]
      · rfl
    rw [this]
    exact h
section
variable {σ : Sto} {lid mid : Nat} {L : LimV}
structure StAt (σ : Sto) (mid : Nat) (L : LimV) (τ : Sto) (D R : List (Bs × BktV)) (cur : DVal) : Prop where
  nobj : τ.nobj = σ.nobj + 3
  ntok : τ.ntok = σ.ntok
  fr : τ.fr = σ.fr
  row : τ.obj σ.nobj = .agg (L.row (σ.nobj + 1))
  done : τ.obj (σ.nobj + 1) = .tup (D.map entB)
  it : τ.obj (σ.nobj + 2) = .func mid [cur, .tup (R.map entB), .tup (L.bk.map entB)]
  rest : ∀ i, i < σ.nobj → i ≠ mid → τ.obj i = σ.obj i
  all : ∀ i, σ.nobj + 3 ≤ i → τ.obj i = σ.obj i
  mid : τ.obj mid = .iface (σ.nobj + 2) .undef
structure FAt (σ : Sto) (mid : Nat) (L : LimV) (τ : Sto) (D : List (Bs × BktV)) : Prop where
  nobj : τ.nobj = σ.nobj + 3
  ntok : τ.ntok = σ.ntok
  fr : τ.fr = σ.fr
  row : τ.obj σ.nobj = .agg (L.row (σ.nobj + 1))
  done : τ.obj (σ.nobj + 1) = .tup (D.map entB)
  it : τ.obj (σ.nobj + 2) = .undef
  rest : ∀ i, i < σ.nobj → τ.obj i = σ.obj i
  all : ∀ i, σ.nobj + 3 ≤ i → τ.obj i = σ.obj i
theorem FAt.like {y z : Sto} {D D' : List (Bs × BktV)} (hy : FAt σ mid L y D) (hz : FAt σ mid L z D') (hp : D.Perm D') (v : DVal) : likeR (v, y) (v, z) := by
  refine ⟨rfl, hy.nobj.trans hz.nobj.symm, hy.ntok.trans hz.ntok.symm, hy.fr.trans hz.fr.symm, fun id => ?_⟩
  show y.obj id = z.obj id ∨ _
  by_cases h1 : id < σ.nobj
  · exact .inl ((hy.rest id h1).trans (hz.rest id h1).symm)
  by_cases h2 : σ.nobj + 3 ≤ id
  · exact .inl ((hy.all id h2).trans (hz.all id h2).symm)
  obtain rfl | rfl | rfl : id = σ.nobj ∨ id = σ.nobj + 1 ∨ id = σ.nobj + 2 := by omega
  · exact .inl (hy.row.trans hz.row.symm)
  · refine .inr ⟨_, _, hy.done, hz.done, hp.map _, fun s hs => ?_⟩
    obtain ⟨x, -, hx⟩ := List.mem_map.1 hs
    cases hx
  · exact .inl (hy.it.trans hz.it.symm)
theorem l38 {n : Nat} (hmid : mid < σ.nobj) (hmap : σ.obj mid = .tup (L.bk.map entB)) (hk : Keys1 L.bk) : ∀ (k m : Nat) (D R : List (Bs × BktV)) (cur : DVal) (τ : Sto), R.length = k → k < m → StAt σ mid L τ D R cur → (D ++ R).Perm L.bk →
    ∃ τ' D', iterJ 0 (L38_0 (cpJ PR n) (ciJ PR n) n (.obj σ.nobj 0) (.obj (σ.nobj + 2) 0)) m [] τ = some (.done (.obj σ.nobj 0) τ') ∧ FAt σ mid L τ' D' ∧ D'.Perm L.bk ∧ (τ.ora = (fun _ => 0) → D' = D ++ R) := by
  intro k
  induction k with
  | zero =>
    intro m D R cur τ hR hm hS hp
    obtain ⟨m, rfl⟩ : ∃ q, m = q + 1 := ⟨m - 1, by omega⟩
    obtain rfl := List.eq_nil_of_length_eq_zero hR
    have hlt : σ.nobj + 2 < τ.nobj := by rw [hS.nobj]; omega
    have hit : τ.obj (σ.nobj + 2) = .func mid [cur, .tup [], .tup (L.bk.map entB)] := hS.it
    have hn := next_nil hlt hit
    refine ⟨{ τ with obj := upd (upd τ.obj (σ.nobj + 2) .undef) mid (.tup (L.bk.map entB)) }, D, iterJ_done ?_, ⟨hS.nobj, hS.ntok, hS.fr, ?_, ?_, ?_, fun i hi => ?_, fun i hi => ?_⟩, by simpa using hp, fun _ => by simp⟩
    · simp -implicitDefEqProofs [L38_0, B38_0, hn]
    · exact (updO_ne _ _ (by omega)).trans ((updO_ne _ _ (by omega)).trans hS.row)
    · exact (updO_ne _ _ (by omega)).trans ((updO_ne _ _ (by omega)).trans hS.done)
    · exact (updO_ne _ _ (by omega)).trans (updO_eq _ _ _)
    · simp only [upd]
      split
      · rename_i e; rw [e, hmap]
      · rename_i e
        rw [if_neg (by omega)]
        exact hS.rest i hi e
    · exact (updO_ne _ _ (by omega)).trans ((updO_ne _ _ (by omega)).trans (hS.all i hi))
  | succ k ih =>
    intro m D R cur τ hR hm hS hp
    obtain ⟨m, rfl⟩ : ∃ q, m = q + 1 := ⟨m - 1, by omega⟩
    have hlt : σ.nobj + 2 < τ.nobj := by rw [hS.nobj]; omega
    have hj : τ.ora 0 % R.length < R.length := Nat.mod_lt _ (by omega)
    obtain ⟨e, he⟩ := get_some hj
    have hlen : (R.map entB).length = R.length := by simp
    have he2 : (R.map entB)[τ.ora 0 % (R.map entB).length]? = some (.tup [.str e.1, e.2.d]) := by rw [hlen, List.getElem?_map, he]; rfl
    have hn := next_cons hlt hS.it he2
    rw [hlen] at hn
    generalize hτ1 : ({ τ with obj := upd τ.obj (σ.nobj + 2) (.func mid [.tup [.str e.1, e.2.d], .tup ((R.map entB).eraseIdx (τ.ora 0 % R.length)), .tup (L.bk.map entB)]), ora := fun i => τ.ora (i + 1) } : Sto) = τ1 at hn
    have hora : τ1.ora = fun i => τ.ora (i + 1) := by rw [← hτ1]
    have hers : (R.map entB).eraseIdx (τ.ora 0 % R.length) = (R.eraseIdx (τ.ora 0 % R.length)).map entB := (ChangeMaps.map_eraseIdx entB R _).symm
    have hS1 : StAt σ mid L τ1 D (R.eraseIdx (τ.ora 0 % R.length)) (.tup [.str e.1, e.2.d]) := by
      rw [← hτ1, ← hers.symm]
      refine ⟨hS.nobj, hS.ntok, hS.fr, ?_, ?_, ?_, fun i hi h2 => ?_, fun i hi => ?_, ?_⟩
      · exact (updO_ne _ _ (by omega)).trans hS.row
      · exact (updO_ne _ _ (by omega)).trans hS.done
      · exact updO_eq _ _ _
      · exact (updO_ne _ _ (by omega)).trans (hS.rest i hi h2)
      · exact (updO_ne _ _ (by omega)).trans (hS.all i hi)
      · exact (updO_ne _ _ (by omega)).trans hS.mid
    have hlt1 : σ.nobj + 2 < τ1.nobj := by rw [hS1.nobj]; omega
    have hent : entMSem τ1 [.obj (σ.nobj + 2) 0] = some (.tup [.str e.1, e.2.d], τ1) := by
      simp only [entMSem, hlt1, if_true, hS1.it]
    have hld : ldOSem τ1 none [.obj σ.nobj 6] = some (.map (σ.nobj + 1), τ1) := by
      rw [ld_obj _ hS1.row (by rw [hS1.nobj]; omega)]; rfl
    have hkey : ∀ x ∈ D, e.1 ≠ x.1 := by
      have hnd : ((D ++ R).map Prod.fst).Nodup := (hp.map Prod.fst).nodup_iff.2 hk
      rw [List.map_append, List.nodup_append] at hnd
      intro x hx h2
      exact hnd.2.2 x.1 (List.mem_map.2 ⟨x, hx, rfl⟩) e.1 (List.mem_map.2 ⟨e, List.mem_of_getElem? he, rfl⟩) h2.symm
    have hset : setB e.1 e.2 D = D ++ [e] := by
      unfold setB
      rw [lookB_none hkey]
    have hup : mupdSem false [.s] τ1 [.map (σ.nobj + 1), .str e.1, e.2.d] = some (.undef, τ1.put (σ.nobj + 1) (.tup ((D ++ [e]).map entB))) := by
      have hl : LimAt (τ1.put σ.nobj (.agg (({ L with bk := D } : LimV).row (σ.nobj + 1)))) σ.nobj (σ.nobj + 1) { L with bk := D } := by
        refine ⟨by show _ < τ1.nobj; rw [hS1.nobj]; omega, by show _ < τ1.nobj; rw [hS1.nobj]; omega, by omega, by simp, ?_⟩
        rw [Sto.put_obj_ne (by omega)]
        exact hS1.done
      have hsame : τ1.put σ.nobj (.agg (({ L with bk := D } : LimV).row (σ.nobj + 1))) = τ1 := by
        have : (.agg (({ L with bk := D } : LimV).row (σ.nobj + 1)) : DVal) = τ1.obj σ.nobj := hS1.row.symm
        rw [this]
        have h2 : upd τ1.obj σ.nobj (τ1.obj σ.nobj) = τ1.obj := by
          funext i
          unfold upd
          split
          · rename_i h; rw [h]
          · rfl
        unfold Sto.put
        rw [h2]
      have := hl.upd e.1 e.2
      rw [hsame] at this
      rw [this]
      show some (DVal.undef, τ1.put (σ.nobj + 1) (.tup ((setB e.1 e.2 D).map entB))) = _
      rw [hset]
    have hS2 : StAt σ mid L (τ1.put (σ.nobj + 1) (.tup ((D ++ [e]).map entB))) (D ++ [e]) (R.eraseIdx (τ.ora 0 % R.length)) (.tup [.str e.1, e.2.d]) := by
      refine ⟨hS1.nobj, hS1.ntok, hS1.fr, ?_, by simp, ?_, fun i hi h2 => ?_, fun i hi => ?_, ?_⟩
      · rw [Sto.put_obj_ne (by omega)]; exact hS1.row
      · rw [Sto.put_obj_ne (by omega)]; exact hS1.it
      · rw [Sto.put_obj_ne (by omega)]; exact hS1.rest i hi h2
      · rw [Sto.put_obj_ne (by omega)]; exact hS1.all i hi
      · rw [Sto.put_obj_ne (by omega)]; exact hS1.mid
    have hpe : (e :: R.eraseIdx (τ.ora 0 % R.length)).Perm R := get_perm he
    obtain ⟨τ', D', r1, r2, r3, r4⟩ := ih m (D ++ [e]) (R.eraseIdx (τ.ora 0 % R.length)) (.tup [.str e.1, e.2.d]) (τ1.put (σ.nobj + 1) (.tup ((D ++ [e]).map entB))) (by rw [List.length_eraseIdx_of_lt hj]; omega) (by omega) hS2
      (((by rw [List.append_assoc]; exact (hpe.append_left D)) : ((D ++ [e]) ++ R.eraseIdx (τ.ora 0 % R.length)).Perm (D ++ R)).trans hp)
    refine ⟨τ', D', ?_, r2, r3, fun ho => ?_⟩
    · rw [← r1]
      refine iterJ_next' ?_
      have w1 := BktV_wr e.2 (.int .i64 0) (.int .i64 0) (.int .i64 0)
      have w2 := BktV_whole e.2
      generalize e.2 = b at *
      generalize (τ1.put (σ.nobj + 1) (.tup ((D ++ [e]).map entB))) = τ2 at *
      simp -implicitDefEqProofs [L38_0, B38_0, hn, hent, hld, hup, w1, w2, -jwrSem.eq_1, -fldSem.eq_1]
    · rw [r4 (by show τ1.ora = _; rw [hora, ho])]
      have h0 : τ.ora 0 % R.length = 0 := by rw [ho]; exact Nat.zero_mod _
      rw [h0] at he ⊢
      cases R with
      | nil => simp at he
      | cons x xs =>
        simp only [List.getElem?_cons_zero, Option.some.injEq] at he
        subst he
        simp
theorem d38 {n : Nat} (hn : 2000 ≤ n) (h : LimAt σ lid mid L) (hlen : L.bk.length ≤ 1024) (hk : Keys1 L.bk) (o : Nat → Nat) : ∃ τ D, outR (D38 (cpJ PR n) (ciJ PR n) n (.obj lid 0) { σ with ora := o }) = some (.obj σ.nobj 0, τ) ∧ FAt σ mid L τ D ∧ D.Perm L.bk ∧ (o = (fun _ => 0) → D = L.bk) := by
  have ho : LimAt { σ with ora := o } lid mid L := ⟨h.lidl, h.midl, h.ne, h.obj, h.map⟩
  have nob : ({ σ with ora := o } : Sto).nobj = σ.nobj := rfl
  have obo : ({ σ with ora := o } : Sto).obj = σ.obj := rfl
  have nto : ({ σ with ora := o } : Sto).ntok = σ.ntok := rfl
  have fro : ({ σ with ora := o } : Sto).fr = σ.fr := rfl
  have orr : ({ σ with ora := o } : Sto).ora = o := rfl
  generalize ({ σ with ora := o } : Sto) = σ0 at *
  have hl := h.lidl
  have hm := h.midl
  have h46 := e46 ho (n := n) (by omega)
  have ld7 : ldOSem σ0 (some 7) [.obj lid 0] = some (.agg (L.row mid), σ0) := by rw [ld_obj _ ho.obj ho.lidl]; rfl
  -- the copy
  obtain ⟨τ1, e1⟩ : ∃ τ, τ = σ0.new (.agg [.int .i64 0, .int .i64 0, .int .i64 0, .int .i64 0, .int .i64 0, .int .i64 0, .nilm]) := ⟨_, rfl⟩
  have hal : allocOSem σ0 [.int .i64 0, .int .i64 0, .int .i64 0, .int .i64 0, .int .i64 0, .int .i64 0, .nilm] [] = some (.obj σ.nobj 0, τ1) := by rw [e1, ← nob]; rfl
  have n1 : τ1.nobj = σ.nobj + 1 := by rw [e1]; show σ0.nobj + 1 = _; rw [nob]
  have c1 : τ1.obj σ.nobj = .agg [.int .i64 0, .int .i64 0, .int .i64 0, .int .i64 0, .int .i64 0, .int .i64 0, .nilm] := by rw [e1, ← nob]; simp
  obtain ⟨τ2, e2⟩ : ∃ τ, τ = τ1.put σ.nobj (.agg (L.row mid)) := ⟨_, rfl⟩
  have hs1 : stOSem τ1 7 [.obj σ.nobj 0, .agg (L.row mid)] = some (.undef, τ2) := by rw [st_obj (k := 7) c1 (by omega) rfl rfl, e2]; rfl
  obtain ⟨τ3, e3⟩ : ∃ τ, τ = τ2.new (.tup []) := ⟨_, rfl⟩
  have n2 : τ2.nobj = σ.nobj + 1 := by rw [e2]; exact n1
  have hmk : mkmapSem τ2 [] = some (.map (σ.nobj + 1), τ3) := by rw [e3, ← n2]; rfl
  have n3 : τ3.nobj = σ.nobj + 2 := by rw [e3]; show τ2.nobj + 1 = _; rw [n2]
  have c3 : τ3.obj σ.nobj = .agg (L.row mid) := by rw [e3, Sto.new_obj_ne (by omega), e2]; simp
  obtain ⟨τ4, e4⟩ : ∃ τ, τ = τ3.put σ.nobj (.agg (L.row (σ.nobj + 1))) := ⟨_, rfl⟩
  have hs2 : stOSem τ3 1 [.obj σ.nobj 6, .map (σ.nobj + 1)] = some (.undef, τ4) := by rw [st_obj (k := 1) c3 (by omega) rfl rfl, e4]; rfl
  have n4 : τ4.nobj = σ.nobj + 2 := by rw [e4]; exact n3
  have old4 : ∀ i, i < σ.nobj → τ4.obj i = σ.obj i := fun i hi => by
    rw [e4, Sto.put_obj_ne (by omega), e3, Sto.new_obj_ne (by omega), e2, Sto.put_obj_ne (by omega), e1, Sto.new_obj_ne (by omega), obo]
  have new4 : ∀ i, σ.nobj + 2 ≤ i → τ4.obj i = σ.obj i := fun i hi => by
    rw [e4, Sto.put_obj_ne (by omega), e3]
    show upd τ2.obj τ2.nobj _ i = _
    rw [updO_ne _ _ (by omega), e2, Sto.put_obj_ne (by omega), e1]
    show upd σ0.obj σ0.nobj _ i = _
    rw [updO_ne _ _ (by omega), obo]
  have ld6 : ldOSem τ4 none [.obj lid 6] = some (.map mid, τ4) := by rw [ld_obj _ ((old4 lid hl).trans h.obj) (by omega)]; rfl
  have row4 : τ4.obj σ.nobj = .agg (L.row (σ.nobj + 1)) := by rw [e4]; simp
  have map4 : τ4.obj (σ.nobj + 1) = .tup [] := by
    rw [e4, Sto.put_obj_ne (by omega), e3, ← n2]; simp
  have t4 : τ4.ntok = σ.ntok ∧ τ4.fr = σ.fr ∧ τ4.ora = o := by
    rw [e4, e3, e2, e1]
    exact ⟨nto, fro, orr⟩
  have hr : rngMSem τ4 [.map mid] = some (.obj (σ.nobj + 2) 0, { τ4 with nobj := σ.nobj + 3, obj := upd (upd τ4.obj mid (.iface (σ.nobj + 2) .undef)) (σ.nobj + 2) (.func mid [.undef, .tup (L.bk.map entB), .tup (L.bk.map entB)]) }) := by
    have := rng_at (τ := τ4) (m := mid) (by omega) ((old4 mid hm).trans h.map) (fun s r e => by cases hb : L.bk <;> rw [hb] at e <;> cases e)
    rw [n4] at this
    exact this
  have hS : StAt σ mid L { τ4 with nobj := σ.nobj + 3, obj := upd (upd τ4.obj mid (.iface (σ.nobj + 2) .undef)) (σ.nobj + 2) (.func mid [.undef, .tup (L.bk.map entB), .tup (L.bk.map entB)]) } [] L.bk .undef := by
    refine ⟨rfl, t4.1, t4.2.1, ?_, ?_, updO_eq _ _ _, fun i hi h2 => ?_, fun i hi => ?_, ?_⟩
    · exact (updO_ne _ _ (by omega)).trans ((updO_ne _ _ (by omega)).trans row4)
    · exact (updO_ne _ _ (by omega)).trans ((updO_ne _ _ (by omega)).trans map4)
    · exact (updO_ne _ _ (by omega)).trans ((updO_ne _ _ h2).trans (old4 i hi))
    · exact (updO_ne _ _ (by omega)).trans ((updO_ne _ _ (by omega)).trans (new4 i (by omega)))
    · exact (updO_ne _ _ (by omega)).trans (updO_eq _ _ _)
  obtain ⟨τ', D', r1, r2, r3, r4⟩ := l38 (n := n) hm h.map hk L.bk.length n [] L.bk .undef _ rfl (by omega) hS (by simp)
  refine ⟨τ', D', ?_, r2, r3, fun h0 => by simpa using r4 (t4.2.2.trans h0)⟩
  generalize ({ τ4 with nobj := σ.nobj + 3, obj := upd (upd τ4.obj mid (.iface (σ.nobj + 2) .undef)) (σ.nobj + 2) (.func mid [.undef, .tup (L.bk.map entB), .tup (L.bk.map entB)]) } : Sto) = τ5 at *
  generalize L.row mid = RW at *
  simp -implicitDefEqProofs [D38, h46, ld7, hal, hs1, hmk, hs2, ld6, hr, r1, outR, -jwrSem.eq_1, -fldSem.eq_1]
theorem e38 {n : Nat} (hn : 2001 ≤ n) (h : LimAt σ lid mid L) (hlen : L.bk.length ≤ 1024) (hk : Keys1 L.bk) : ∃ σ', ciJ PR n 38 [.obj lid 0] σ = some (.obj σ.nobj 0, σ') ∧ FAt σ mid L σ' L.bk := by
  obtain ⟨n, rfl⟩ : ∃ m, n = m + 1 := ⟨n - 1, by omega⟩
  obtain ⟨τ, D, h1, h2, -, h4⟩ := d38 (n := n) (by omega) h hlen hk (fun _ => 0)
  have hD := h4 rfl
  subst hD
  rw [v38]
  rw [rdet_eq (z := (.obj σ.nobj 0, τ)) h1 fun o => ?_]
  · exact ⟨_, rfl, h2.nobj, h2.ntok, h2.fr, h2.row, h2.done, h2.it, h2.rest, h2.all⟩
  · obtain ⟨y, D2, g1, g2, g3, -⟩ := d38 (n := n) (by omega) h hlen hk o
    exact ⟨_, g1, g2.like h2 g3 _⟩
theorem FAt.lim {τ : Sto} (h : FAt σ mid L τ L.bk) : LimAt τ σ.nobj (σ.nobj + 1) L :=
  ⟨by rw [h.nobj]; omega, by rw [h.nobj]; omega, by omega, h.row, h.done⟩
theorem FAt.keep {τ : Sto} {D : List (Bs × BktV)} (h : FAt σ mid L τ D) : KeepO σ τ (fun _ => False) := ⟨by rw [h.nobj]; omega, fun i hi _ => h.rest i hi⟩
end
end Go.Proofs.YtagkgekpfgepoaaDoor
