/- Texts of this proof, part 5: see the card for what is proved. -/
import Derived.Test.YthpccimmmfonjaaGreatDoorPk04
import Derived.Test.YthpccimmmfonjaaGreatDoorChecked
import Derived.KernelRfl
namespace Go.Proofs.YthpccimmmfonjaaGreatDoor
set_option linter.unusedVariables false
set_option linter.unusedSimpArgs false
set_option maxRecDepth 20000
set_option maxHeartbeats 2000000
open Go
theorem names_one {l : List Bs} {s : Bs} (h : Names l []) (h1 : okName s = true) (h2 : s ∉ l) : Names (l ++ [s]) [] :=
  names_app h ⟨by simpa using h1, by simp, by simpa using h2⟩
theorem l72 {n d : Nat} (hn : maxLen + 1200 ≤ n) {p : PolV} (hf : PFit d p) (hp : SmallP p) : ∀ (k i m : Nat) (v u : DVal) (σ : Sto), i + k = p.users.l.length → k < m → Names ((p.users.l.take i).map UserV.name) [] → Own σ 1 v (srows ((p.users.l.take i).map UserV.name)) →
    Ans (iterJ 0 (L72_0 (cpJ PR n) (ciJ PR n) n p.d) m [.int .i64 i, v, u] σ) (doneI fun e => e = 0 → Names (p.users.l.map UserV.name) []) := by
  intro k
  induction k with
  | zero =>
    intro i m v u σ hi hm hN hv
    obtain ⟨m, rfl⟩ : ∃ j, m = j + 1 := ⟨m - 1, by omega⟩
    have hi' : ¬ ((i : Int) < p.users.l.length) := by omega
    rw [List.take_of_length_le (by omega)] at hN
    refine ans_iter ?_
    simp -implicitDefEqProofs [L72_0, B72_0, hi', hN]
  | succ k ih =>
    intro i m v u σ hi hm hN hv
    obtain ⟨m, rfl⟩ : ∃ j, m = j + 1 := ⟨m - 1, by omega⟩
    have hlen := hp.users
    have hi' : ((i : Int) < p.users.l.length) := by omega
    obtain ⟨x, hx⟩ := get_some (l := p.users.l) (by omega : i < p.users.l.length)
    have f1 := hf.users x (List.mem_of_getElem? hx)
    have hwr := wrap_i (by omega : i < p.users.l.length) (by unfold maxLen; omega)
    have hl : ((p.users.l.take i).map UserV.name).length ≤ 8 := by rw [List.length_map, List.length_take]; omega
    have e1 : (p.users.l.take (i + 1)).map UserV.name = (p.users.l.take i).map UserV.name ++ [x.name] := by rw [take_get hx]; simp
    have ih := ih (i + 1)
    rw [e1] at ih
    generalize (p.users.l.take i).map UserV.name = ns at hN hv hl ih
    obtain ⟨z, hz⟩ := own_seal hv
    obtain ⟨e, h1, h1'⟩ := nm1 hn x.name f1 z ns (by omega)
    obtain ⟨v', σ', h3, hv'⟩ := own_one (own := 1) (r := [.str x.name]) hv (by rw [List.length_map]; omega)
    obtain ⟨b5, h5⟩ := e115 (n := n) (by omega) p hp.short.roles x.roles
    obtain ⟨b6, h6⟩ := e116 (n := n) (by omega) p x.lo x.hi
    obtain ⟨b7, h7⟩ := e117 (n := n) (by omega) p x.dflt
    obtain ⟨b8, h8⟩ := e118 (n := n) (by omega) x.hi x.dflt
    obtain ⟨b9, h9⟩ := e118 (n := n) (by omega) x.dflt x.lo
    refine ans_iter ?_
    by_cases he : e = 0
    · subst he
      obtain ⟨q1, q2⟩ := h1' rfl
      have h4 := ih m v' u σ' (by omega) (by omega) (names_one hN q1 q2) (by simpa using hv')
      simp only [Int.natCast_add, Int.natCast_one] at h4
      simp -implicitDefEqProofs +contextual [L72_0, B72_0, hi', hx, hwr, hz, h1, h3, h4, h5, h6, h7, h8, h9]
    · simp -implicitDefEqProofs +contextual [L72_0, B72_0, hi', hx, hwr, hz, h1, he]
theorem e72 {n d : Nat} (hn : maxLen + 1300 ≤ n) {p : PolV} (hf : PFit d p) (hp : SmallP p) : ∃ i, cpJ PR n 72 [p.d] = some (.int .i64 i) ∧ (i = 0 → Names (p.users.l.map UserV.name) []) := by
  obtain ⟨n, rfl⟩ : ∃ m, n = m + 1 := ⟨n - 1, by omega⟩
  have hlen := hp.users
  obtain ⟨i, σ, h, hi⟩ := (l72 (n := n) (by omega) hf hp p.users.l.length 0 n .nils (.int .i64 0) emptySto (by omega) (by omega) ⟨by simp, by simp, by simp⟩ (own_nils _ _)).doneI
  simp only [Int.natCast_zero] at h
  have : Ans (cpJ PR (n + 1) 72 [p.d]) (isI fun i => i = 0 → Names (p.users.l.map UserV.name) []) := by
    rw [u72]
    refine ans_fin ?_
    simp -implicitDefEqProofs [D72, h]
    exact fun _ => hi
  exact this.int
def Cats (p : PolV) : Prop := Names p.sens.l [] ∧ Names p.cats.l []
theorem l73 {n d : Nat} (hn : maxLen + 1200 ≤ n) {p : PolV} (hf : PFit d p) (hp : SmallP p) : ∀ (k i m : Nat) (v : DVal) (σ : Sto), i + k = p.bools.l.length → k < m → Own σ 1 v (srows ((p.bools.l.take i).map BoolV.name)) →
    Ans (iterJ 0 (L73_0 (cpJ PR n) (ciJ PR n) n p.d) m [.int .i64 i, v] σ) (doneI fun e => e = 0 → Cats p) := by
  intro k
  induction k with
  | zero =>
    intro i m v σ hi hm hv
    obtain ⟨m, rfl⟩ : ∃ j, m = j + 1 := ⟨m - 1, by omega⟩
    have hi' : ¬ ((i : Int) < p.bools.l.length) := by omega
    have hlen := hp.bools
    have g1 : ((p.bools.l.take i).map BoolV.name).length ≤ maxLen := by simp [maxLen]; omega
    have g2 : ∀ s ∈ (p.bools.l.take i).map BoolV.name, s.length ≤ maxLen := by
      intro s hs
      rw [List.mem_map] at hs
      obtain ⟨a, ha, rfl⟩ := hs
      exact hf.bools a (List.mem_of_mem_take ha)
    generalize (p.bools.l.take i).map BoolV.name = ns at hv g1 g2
    obtain ⟨z, hz⟩ := own_seal hv
    obtain ⟨e1, h1, -⟩ := e111 (n := n) hn z .nil ns [] g1 g2 (by simp)
    have h1 : cpJ PR n 111 [slD z 1 (srows ns), .nils] = some (.int .i64 e1) := h1
    obtain ⟨e2, h2, h2'⟩ := e111 (n := n) hn p.sens.z .nil p.sens.l [] (by have := hp.sens; unfold maxLen; omega) hf.sens (by simp)
    have h2 : cpJ PR n 111 [strs p.sens, .nils] = some (.int .i64 e2) := h2
    obtain ⟨e3, h3, h3'⟩ := e111 (n := n) hn p.cats.z .nil p.cats.l [] (by have := hp.cats; unfold maxLen; omega) hf.cats (by simp)
    have h3 : cpJ PR n 111 [strs p.cats, .nils] = some (.int .i64 e3) := h3
    refine ans_iter ?_
    simp -implicitDefEqProofs [L73_0, B73_0, hi', hz, h1, h2, h3]
    exact ⟨fun a b => absurd b a, fun _ _ => ⟨fun a b => absurd b a, fun a _ b => ⟨h2' a, h3' b⟩⟩⟩
  | succ k ih =>
    intro i m v σ hi hm hv
    obtain ⟨m, rfl⟩ : ∃ j, m = j + 1 := ⟨m - 1, by omega⟩
    have hlen := hp.bools
    have hi' : ((i : Int) < p.bools.l.length) := by omega
    obtain ⟨x, hx⟩ := get_some (l := p.bools.l) (by omega : i < p.bools.l.length)
    have hwr := wrap_i (by omega : i < p.bools.l.length) (by unfold maxLen; omega)
    obtain ⟨v', σ', h3, hv'⟩ := own_one (own := 1) (r := [.str x.name]) hv (by rw [List.length_map, List.length_map, List.length_take]; omega)
    have e1 : (p.bools.l.take (i + 1)).map BoolV.name = (p.bools.l.take i).map BoolV.name ++ [x.name] := by rw [take_get hx]; simp
    have h4 := ih (i + 1) m v' σ' (by omega) (by omega) (by rw [e1]; simpa using hv')
    simp only [Int.natCast_add, Int.natCast_one] at h4
    refine ans_iter ?_
    simp -implicitDefEqProofs [L73_0, B73_0, hi', hx, hwr, h3, h4]
theorem e73 {n d : Nat} (hn : maxLen + 1300 ≤ n) {p : PolV} (hf : PFit d p) (hp : SmallP p) : ∃ i, cpJ PR n 73 [p.d] = some (.int .i64 i) ∧ (i = 0 → Cats p) := by
  obtain ⟨n, rfl⟩ : ∃ m, n = m + 1 := ⟨n - 1, by omega⟩
  have hlen := hp.bools
  obtain ⟨i, σ, h, hi⟩ := (l73 (n := n) (by omega) hf hp p.bools.l.length 0 n .nils emptySto (by omega) (by omega) (own_nils _ _)).doneI
  simp only [Int.natCast_zero] at h
  have : Ans (cpJ PR (n + 1) 73 [p.d]) (isI fun i => i = 0 → Cats p) := by
    rw [u73]
    refine ans_fin ?_
    simp -implicitDefEqProofs [D73, h]
    exact fun _ => hi
  exact this.int
def objRole : Bs := [111, 98, 106, 101, 99, 116, 95, 114]
structure RolesOk (p : PolV) : Prop where
  first : (p.roles.l.map RoleV.name)[0]? = some objRole
  nd : (p.roles.l.map RoleV.name).Nodup
  ok : ∀ s ∈ p.roles.l.map RoleV.name, okName s = true
theorem l71 {n d : Nat} (hn : maxLen + 1200 ≤ n) {p : PolV} (hf : PFit d p) (hp : SmallP p) (all : SetV) (h0 : (p.roles.l.map RoleV.name)[0]? = some objRole) : ∀ (k i m : Nat) (v u : DVal) (σ : Sto), i + k = p.roles.l.length → 1 ≤ i → k < m → Names ((p.roles.l.take i).map RoleV.name) [] → Own σ 1 v (srows ((p.roles.l.take i).map RoleV.name)) →
    Ans (iterJ 0 (L71_0 (cpJ PR n) (ciJ PR n) n p.d all.d) m [.int .i64 i, v, u] σ) (doneI fun e => e = 0 → RolesOk p) := by
  intro k
  induction k with
  | zero =>
    intro i m v u σ hi h1i hm hN hv
    obtain ⟨m, rfl⟩ : ∃ j, m = j + 1 := ⟨m - 1, by omega⟩
    have hi' : ¬ ((i : Int) < p.roles.l.length) := by omega
    rw [List.take_of_length_le (by omega)] at hN
    have hR : RolesOk p := ⟨h0, hN.nd, hN.ok⟩
    refine ans_iter ?_
    simp -implicitDefEqProofs [L71_0, B71_0, hi', hR]
  | succ k ih =>
    intro i m v u σ hi h1i hm hN hv
    obtain ⟨m, rfl⟩ : ∃ j, m = j + 1 := ⟨m - 1, by omega⟩
    have hlen := hp.roles
    have hi' : ((i : Int) < p.roles.l.length) := by omega
    obtain ⟨x, hx⟩ := get_some (l := p.roles.l) (by omega : i < p.roles.l.length)
    have f1 := hf.roles x (List.mem_of_getElem? hx)
    have hwr := wrap_i (by omega : i < p.roles.l.length) (by unfold maxLen; omega)
    have hl : ((p.roles.l.take i).map RoleV.name).length ≤ 8 := by rw [List.length_map, List.length_take]; omega
    have e1 : (p.roles.l.take (i + 1)).map RoleV.name = (p.roles.l.take i).map RoleV.name ++ [x.name] := by rw [take_get hx]; simp
    have ih := ih (i + 1)
    rw [e1] at ih
    generalize (p.roles.l.take i).map RoleV.name = ns at hN hv hl ih
    obtain ⟨z, hz⟩ := own_seal hv
    obtain ⟨e, h1, h1'⟩ := nm1 hn x.name f1 z ns (by omega)
    obtain ⟨v', σ', h3, hv'⟩ := own_one (own := 1) (r := [.str x.name]) hv (by rw [List.length_map]; omega)
    have h5 := e114 (n := n) (by omega) x.types all
    obtain ⟨b6, h6⟩ := e115 (n := n) (by omega) p hp.short.roles x.next
    refine ans_iter ?_
    by_cases he : e = 0
    · subst he
      obtain ⟨q1, q2⟩ := h1' rfl
      have h4 := ih m v' u σ' (by omega) (by omega) (by omega) (names_one hN q1 q2) (by simpa using hv')
      simp only [Int.natCast_add, Int.natCast_one] at h4
      simp -implicitDefEqProofs +contextual [L71_0, B71_0, hi', hx, hwr, hz, h1, h3, h4, h5, h6]
    · simp -implicitDefEqProofs +contextual [L71_0, B71_0, hi', hx, hwr, hz, h1, he]
def objD : DVal := .agg [.str objRole, .int .u64 0, .int .u64 0, .int .u64 0, .int .u64 0, .int .u64 0, .int .u64 0, .int .u64 0, .int .u64 0]
theorem build_obj (C : CallP) : POp.sem C [.str [111, 98, 106, 101, 99, 116, 95, 114]] (.build [.str [], .int .u64 0, .int .u64 0, .int .u64 0, .int .u64 0, .int .u64 0, .int .u64 0, .int .u64 0, .int .u64 0] [(0, 1)]) = some objD := rfl
theorem eqa_obj (x : RoleV) : ∃ b, eqaSem true [.s, .i .u64, .i .u64, .i .u64, .i .u64, .i .u64, .i .u64, .i .u64, .i .u64] [x.d, objD] = some (.bool b) ∧ (b = false → x.name = objRole) := by
  have : Ans (eqaSem true [.s, .i .u64, .i .u64, .i .u64, .i .u64, .i .u64, .i .u64, .i .u64, .i .u64] [x.d, objD]) (isB fun b => b = false → x.name = objRole) := by
    unfold RoleV.d RoleV.row SetV.row objD
    simp -implicitDefEqProofs +contextual
  exact this.bool
theorem e71 {n d : Nat} (hn : maxLen + 1300 ≤ n) {p : PolV} (hf : PFit d p) (hp : SmallP p) : ∃ i, cpJ PR n 71 [p.d] = some (.int .i64 i) ∧ (i = 0 → RolesOk p) := by
  obtain ⟨n, rfl⟩ : ∃ m, n = m + 1 := ⟨n - 1, by omega⟩
  have hlen := hp.roles
  have h1 := e30 (n := n) (by omega) p.types.l.length hp.short.types
  have : Ans (cpJ PR (n + 1) 71 [p.d]) (isI fun i => i = 0 → RolesOk p) := by
    rw [u71]
    refine ans_fin ?_
    by_cases h0 : p.roles.l = []
    · simp -implicitDefEqProofs [D71, h1, h0]
    · have h0' : 0 < p.roles.l.length := by
        cases h : p.roles.l with
        | nil => exact absurd h h0
        | cons a b => simp
      obtain ⟨x, hx⟩ := get_some (l := p.roles.l) (i := 0) h0'
      obtain ⟨b, h2, h3⟩ := eqa_obj x
      have h4 : ((p.roles.l.length : Int) == 0) = false := beq_eq_false_iff_ne.2 (by omega)
      have hx' : p.roles.l[0] = x := by rw [List.getElem?_eq_getElem h0'] at hx; exact Option.some.inj hx
      cases b with
      | true =>
        simp -implicitDefEqProofs [D71, h1, h0, h0', h4, hx', h2, build_obj, -eqaSem.eq_1, -POp.sem.eq_17]
      | false =>
        have hne := h3 rfl
        obtain ⟨i, σ, h, hi⟩ := (l71 (n := n) (by omega) hf hp (allN (min p.types.l.length 256)) (by rw [List.getElem?_map, hx]; simp [hne]) (p.roles.l.length - 1) 1 n (.slice false 1 1 [[.str objRole]]) (.int .i64 0) emptySto (by omega) (by omega) (by omega) (by
            rw [take_get (i := 0) hx]
            simp only [List.take_zero, List.nil_append, List.map_cons, List.map_nil, hne]
            exact ⟨by simp; decide, by simp, by simp⟩) (by
            rw [take_get (i := 0) hx]
            simp only [List.take_zero, List.nil_append, List.map_cons, List.map_nil, hne]
            exact own_lit _ _ _)).doneI
        simp only [objRole, Int.natCast_one] at h
        simp -implicitDefEqProofs [D71, h1, h0, h0', h4, hx', h2, build_obj, h, -eqaSem.eq_1, -POp.sem.eq_17]
        exact fun _ => hi
  exact this.int
end Go.Proofs.YthpccimmmfonjaaGreatDoor
namespace Go.Proofs.YthpccimmmfonjaaGreatDoor
set_option linter.unusedVariables false
set_option linter.unusedSimpArgs false
set_option maxRecDepth 20000
set_option maxHeartbeats 4000000
open Go
section
variable {n d : Nat} (hn : maxLen + 1200 + d ≤ n) {p : PolV} (hp : SmallP p)
include hn hp
theorem l74_0 : ∀ (k i m : Nat) (u : DVal) (σ : Sto), i + k = p.rules.l.length → k < m →
    Ans (iterJ 1 (L74_0 (cpJ PR n) (ciJ PR n) n p.d) m [.int .i64 i, u] σ) (doneI any) := by
  intro k
  induction k with
  | zero =>
    intro i m u σ hi hm
    obtain ⟨m, rfl⟩ : ∃ j, m = j + 1 := ⟨m - 1, by omega⟩
    have hi' : ¬ ((i : Int) < p.rules.l.length) := by omega
    refine ans_iter ?_
    simp -implicitDefEqProofs [L74_0, B74_0, hi']
  | succ k ih =>
    intro i m u σ hi hm
    obtain ⟨m, rfl⟩ : ∃ j, m = j + 1 := ⟨m - 1, by omega⟩
    have hlen := hp.rules
    have hi' : ((i : Int) < p.rules.l.length) := by omega
    obtain ⟨x, hx⟩ := get_some (l := p.rules.l) (by omega : i < p.rules.l.length)
    have hwr := wrap_i (by omega : i < p.rules.l.length) (by unfold maxLen; omega)
    obtain ⟨a1, a2, h1⟩ := e113 (n := n) (by omega) x.source p.types.l.length hp.short.types
    obtain ⟨b1, b2, h2⟩ := e113 (n := n) (by omega) x.target p.types.l.length hp.short.types
    obtain ⟨c1, h3⟩ := e120 (n := n) (by omega) p x.cls x.perms
    obtain ⟨c2, h4⟩ := e121 (n := n) (by omega) p x.cond
    have h5 := ih (i + 1) m u σ (by omega) (by omega)
    simp only [Int.natCast_add, Int.natCast_one] at h5
    refine ans_iter ?_
    simp -implicitDefEqProofs +contextual [L74_0, B74_0, hi', hx, hwr, h1, h2, h3, h4, h5]
theorem l74_1 (hf : PFit d p) : ∀ (k i m : Nat) (u : DVal) (σ : Sto), i + k = p.conds.l.length → k < m →
    Ans (iterJ 0 (L74_1 (cpJ PR n) (ciJ PR n) n p.d) m [.int .i64 i, u] σ) (doneI any) := by
  intro k
  induction k with
  | zero =>
    intro i m u σ hi hm
    obtain ⟨m, rfl⟩ : ∃ j, m = j + 1 := ⟨m - 1, by omega⟩
    have hi' : ¬ ((i : Int) < p.conds.l.length) := by omega
    have hlen := hp.rules
    have h1 := doneI_step (l := 0) (f := L74_1 (cpJ PR n) (ciJ PR n) n p.d) (m := m) (l74_0 hn hp p.rules.l.length 0 n u σ (by omega) (by omega))
    simp only [Int.natCast_zero] at h1
    refine ans_iter ?_
    simp -implicitDefEqProofs [L74_1, B74_1, hi', h1]
  | succ k ih =>
    intro i m u σ hi hm
    obtain ⟨m, rfl⟩ : ∃ j, m = j + 1 := ⟨m - 1, by omega⟩
    have hlen := hp.conds
    have hi' : ((i : Int) < p.conds.l.length) := by omega
    obtain ⟨x, hx⟩ := get_some (l := p.conds.l) (by omega : i < p.conds.l.length)
    have hwr := wrap_i (by omega : i < p.conds.l.length) (by unfold maxLen; omega)
    obtain ⟨j, h1⟩ := e119 (n := n) p (hf.conds x (List.mem_of_getElem? hx)) (by omega)
    have h5 := ih (i + 1) m u σ (by omega) (by omega)
    simp only [Int.natCast_add, Int.natCast_one] at h5
    refine ans_iter ?_
    simp -implicitDefEqProofs +contextual [L74_1, B74_1, hi', hx, hwr, h1, h5]
theorem l75_0 (hf : PFit d p) : ∀ (k i m : Nat) (u : DVal) (σ : Sto), i + k = p.trans.l.length → k < m →
    Ans (iterJ 1 (L75_0 (cpJ PR n) (ciJ PR n) n p.d) m [.int .i64 i, u] σ) (doneI any) := by
  intro k
  induction k with
  | zero =>
    intro i m u σ hi hm
    obtain ⟨m, rfl⟩ : ∃ j, m = j + 1 := ⟨m - 1, by omega⟩
    have hi' : ¬ ((i : Int) < p.trans.l.length) := by omega
    refine ans_iter ?_
    simp -implicitDefEqProofs [L75_0, B75_0, hi']
  | succ k ih =>
    intro i m u σ hi hm
    obtain ⟨m, rfl⟩ : ∃ j, m = j + 1 := ⟨m - 1, by omega⟩
    have hlen := hp.trans
    have hi' : ((i : Int) < p.trans.l.length) := by omega
    obtain ⟨x, hx⟩ := get_some (l := p.trans.l) (by omega : i < p.trans.l.length)
    have hwr := wrap_i (by omega : i < p.trans.l.length) (by unfold maxLen; omega)
    obtain ⟨a1, a2, h1⟩ := e113 (n := n) (by omega) x.source p.types.l.length hp.short.types
    obtain ⟨b1, b2, h2⟩ := e113 (n := n) (by omega) x.target p.types.l.length hp.short.types
    have h3 := e122 (n := n) (by omega) x.cls p.classes.l.length
    have h4 := e122 (n := n) (by omega) x.result p.types.l.length
    obtain ⟨c1, h6⟩ := e121 (n := n) (by omega) p x.cond
    obtain ⟨c2, h7⟩ := e123 (n := n) (by omega) x.name (hf.trans x (List.mem_of_getElem? hx))
    have h5 := ih (i + 1) m u σ (by omega) (by omega)
    simp only [Int.natCast_add, Int.natCast_one] at h5
    refine ans_iter ?_
    simp -implicitDefEqProofs +contextual [L75_0, B75_0, hi', hx, hwr, h1, h2, h3, h4, h5, h6, h7]
theorem l75_1 (hf : PFit d p) (a : Nat) : ∀ (k i m : Nat) (u : DVal) (σ : Sto) (g : Nat → Int), i + k = p.trans.l.length → k < m → a < σ.nobj → σ.obj a = arrD 4 (fun j => .int .i64 (g j)) →
    Ans (iterJ 0 (L75_1 (cpJ PR n) (ciJ PR n) n p.d (.obj a 0)) m [.int .i64 i, u] σ) (doneI any) := by
  intro k
  induction k with
  | zero =>
    intro i m u σ g hi hm ha ho
    obtain ⟨m, rfl⟩ : ∃ j, m = j + 1 := ⟨m - 1, by omega⟩
    have hi' : ¬ ((i : Int) < p.trans.l.length) := by omega
    have hlen := hp.trans
    have h1 := doneI_step (l := 0) (f := L75_1 (cpJ PR n) (ciJ PR n) n p.d (.obj a 0)) (m := m) (l75_0 hn hp hf p.trans.l.length 0 n u σ (by omega) (by omega))
    simp only [Int.natCast_zero] at h1
    refine ans_iter ?_
    simp -implicitDefEqProofs [L75_1, B75_1, hi', h1]
  | succ k ih =>
    intro i m u σ g hi hm ha ho
    obtain ⟨m, rfl⟩ : ∃ j, m = j + 1 := ⟨m - 1, by omega⟩
    have hlen := hp.trans
    have hi' : ((i : Int) < p.trans.l.length) := by omega
    obtain ⟨x, hx⟩ := get_some (l := p.trans.l) (by omega : i < p.trans.l.length)
    have hwr := wrap_i (by omega : i < p.trans.l.length) (by unfold maxLen; omega)
    refine ans_iter ?_
    by_cases hk : 1 ≤ x.kind ∧ x.kind ≤ 3
    · obtain ⟨j, hj⟩ : ∃ j : Nat, x.kind = j := ⟨x.kind.toNat, by omega⟩
      rw [hj] at hk
      obtain ⟨k1, k2⟩ := hk
      have h1 := idx_arr (id := a) (j := j) (by omega)
      have h2 := ld_arr (i := j) ho ha (by omega)
      have h3 := st_arr (i := j) (v := .int .i64 (IntKind.i64.wrap (g j + 1))) ho ha (by omega) rfl rfl
      have e : upd (fun j => DVal.int .i64 (g j)) j (.int .i64 (IntKind.i64.wrap (g j + 1))) = fun i => .int .i64 (upd g j (IntKind.i64.wrap (g j + 1)) i) := by
        funext i; simp only [upd]; split <;> rfl
      rw [e] at h3
      clear e
      generalize upd g j (IntKind.i64.wrap (g j + 1)) = g' at h3
      have h4 := ld_arr (σ := σ.put a (arrD 4 fun i => .int .i64 (g' i))) (id := a) (i := j) (n := 4) (f := fun i => .int .i64 (g' i)) (by simp) (by simpa using ha) (by omega)
      have h5 := ih (i + 1) m u (σ.put a (arrD 4 fun i => .int .i64 (g' i))) g' (by omega) (by omega) (by simpa using ha) (by rw [Sto.put_obj])
      simp only [Int.natCast_add, Int.natCast_one] at h5
      simp -implicitDefEqProofs [L75_1, B75_1, hi', hx, hwr, hj, k1, k2, h1, h2, h3, h4, h5, -idxASem.eq_1]
    · have h5 := ih (i + 1) m u σ g (by omega) (by omega) ha ho
      simp only [Int.natCast_add, Int.natCast_one] at h5
      by_cases k1 : 1 ≤ x.kind
      · have k2 : ¬ x.kind ≤ 3 := fun h => hk ⟨k1, h⟩
        simp -implicitDefEqProofs [L75_1, B75_1, hi', hx, hwr, k1, k2, h5]
      · simp -implicitDefEqProofs [L75_1, B75_1, hi', hx, hwr, k1, h5]
theorem l76_0 : ∀ (k i m : Nat) (u : DVal) (σ : Sto), i + k = p.ranges.l.length → k < m →
    Ans (iterJ 1 (L76_0 (cpJ PR n) (ciJ PR n) n p.d) m [.int .i64 i, u] σ) (doneI any) := by
  intro k
  induction k with
  | zero =>
    intro i m u σ hi hm
    obtain ⟨m, rfl⟩ : ∃ j, m = j + 1 := ⟨m - 1, by omega⟩
    have hi' : ¬ ((i : Int) < p.ranges.l.length) := by omega
    refine ans_iter ?_
    simp -implicitDefEqProofs [L76_0, B76_0, hi']
  | succ k ih =>
    intro i m u σ hi hm
    obtain ⟨m, rfl⟩ : ∃ j, m = j + 1 := ⟨m - 1, by omega⟩
    have hlen := hp.ranges
    have hi' : ((i : Int) < p.ranges.l.length) := by omega
    obtain ⟨x, hx⟩ := get_some (l := p.ranges.l) (by omega : i < p.ranges.l.length)
    have hwr := wrap_i (by omega : i < p.ranges.l.length) (by unfold maxLen; omega)
    obtain ⟨a1, a2, h1⟩ := e113 (n := n) (by omega) x.source p.types.l.length hp.short.types
    obtain ⟨b1, b2, h2⟩ := e113 (n := n) (by omega) x.target p.types.l.length hp.short.types
    have h3 := e122 (n := n) (by omega) x.cls p.classes.l.length
    obtain ⟨c2, h4⟩ := e116 (n := n) (by omega) p x.lo x.hi
    have h5 := ih (i + 1) m u σ (by omega) (by omega)
    simp only [Int.natCast_add, Int.natCast_one] at h5
    refine ans_iter ?_
    simp -implicitDefEqProofs +contextual [L76_0, B76_0, hi', hx, hwr, h1, h2, h3, h4, h5]
theorem l76_1 : ∀ (k i m : Nat) (u : DVal) (σ : Sto), i + k = p.roleTrans.l.length → k < m →
    Ans (iterJ 0 (L76_1 (cpJ PR n) (ciJ PR n) n p.d) m [.int .i64 i, u] σ) (doneI any) := by
  intro k
  induction k with
  | zero =>
    intro i m u σ hi hm
    obtain ⟨m, rfl⟩ : ∃ j, m = j + 1 := ⟨m - 1, by omega⟩
    have hi' : ¬ ((i : Int) < p.roleTrans.l.length) := by omega
    have hlen := hp.ranges
    have h1 := doneI_step (l := 0) (f := L76_1 (cpJ PR n) (ciJ PR n) n p.d) (m := m) (l76_0 hn hp p.ranges.l.length 0 n u σ (by omega) (by omega))
    simp only [Int.natCast_zero] at h1
    refine ans_iter ?_
    simp -implicitDefEqProofs [L76_1, B76_1, hi', h1]
  | succ k ih =>
    intro i m u σ hi hm
    obtain ⟨m, rfl⟩ : ∃ j, m = j + 1 := ⟨m - 1, by omega⟩
    have hlen := hp.roleTrans
    have hi' : ((i : Int) < p.roleTrans.l.length) := by omega
    obtain ⟨x, hx⟩ := get_some (l := p.roleTrans.l) (by omega : i < p.roleTrans.l.length)
    have hwr := wrap_i (by omega : i < p.roleTrans.l.length) (by unfold maxLen; omega)
    obtain ⟨a1, h1⟩ := eqa_zero true x.roles
    obtain ⟨b1, h2⟩ := e115 (n := n) (by omega) p hp.short.roles x.roles
    obtain ⟨b2, b3, h3⟩ := e113 (n := n) (by omega) x.types p.types.l.length hp.short.types
    have h4 := e122 (n := n) (by omega) x.cls p.classes.l.length
    have h6 := e122 (n := n) (by omega) x.result p.roles.l.length
    have h5 := ih (i + 1) m u σ (by omega) (by omega)
    simp only [Int.natCast_add, Int.natCast_one] at h5
    refine ans_iter ?_
    simp -implicitDefEqProofs +contextual [L76_1, B76_1, hi', hx, hwr, h1, h2, h3, h4, h5, h6, build0, -eqaSem.eq_1, -POp.sem.eq_17]
theorem l77_0 (hf : PFit d p) : ∀ (k i m : Nat) (u : DVal) (σ : Sto), i + k = p.constrs.l.length → k < m →
    Ans (iterJ 0 (L77_0 (cpJ PR n) (ciJ PR n) n p.d) m [.int .i64 i, u] σ) (doneI any) := by
  intro k
  induction k with
  | zero =>
    intro i m u σ hi hm
    obtain ⟨m, rfl⟩ : ∃ j, m = j + 1 := ⟨m - 1, by omega⟩
    have hi' : ¬ ((i : Int) < p.constrs.l.length) := by omega
    refine ans_iter ?_
    simp -implicitDefEqProofs [L77_0, B77_0, hi']
  | succ k ih =>
    intro i m u σ hi hm
    obtain ⟨m, rfl⟩ : ∃ j, m = j + 1 := ⟨m - 1, by omega⟩
    have hlen := hp.constrs
    have hi' : ((i : Int) < p.constrs.l.length) := by omega
    obtain ⟨x, hx⟩ := get_some (l := p.constrs.l) (by omega : i < p.constrs.l.length)
    have hwr := wrap_i (by omega : i < p.constrs.l.length) (by unfold maxLen; omega)
    obtain ⟨a1, h1⟩ := e120 (n := n) (by omega) p x.cls x.perms
    obtain ⟨b1, h2⟩ := e124 (n := n) hp.short (hf.constrs x (List.mem_of_getElem? hx)) x.validate (by omega)
    have h5 := ih (i + 1) m u σ (by omega) (by omega)
    simp only [Int.natCast_add, Int.natCast_one] at h5
    refine ans_iter ?_
    simp -implicitDefEqProofs [L77_0, B77_0, hi', hx, hwr, h1, h2, h5]
end
end Go.Proofs.YthpccimmmfonjaaGreatDoor
namespace Go.Proofs.YthpccimmmfonjaaGreatDoor
set_option linter.unusedVariables false
set_option linter.unusedSimpArgs false
set_option maxRecDepth 20000
set_option maxHeartbeats 4000000
open Go
section
variable {n d : Nat} (hn : maxLen + 1200 + d ≤ n) {p : PolV} (hp : SmallP p) (hf : PFit d p)
include hn hp hf
theorem l78_0 : ∀ (k i m : Nat) (u : DVal) (σ : Sto), i + k = p.files.l.length → k < m →
    Ans (iterJ 1 (L78_0 (cpJ PR n) (ciJ PR n) n p.d) m [.int .i64 i, u] σ) (doneI any) := by
  intro k
  induction k with
  | zero =>
    intro i m u σ hi hm
    obtain ⟨m, rfl⟩ : ∃ j, m = j + 1 := ⟨m - 1, by omega⟩
    have hi' : ¬ ((i : Int) < p.files.l.length) := by omega
    refine ans_iter ?_
    simp -implicitDefEqProofs [L78_0, B78_0, hi']
  | succ k ih =>
    intro i m u σ hi hm
    obtain ⟨m, rfl⟩ : ∃ j, m = j + 1 := ⟨m - 1, by omega⟩
    have hlen := hp.files
    have hi' : ((i : Int) < p.files.l.length) := by omega
    obtain ⟨x, hx⟩ := get_some (l := p.files.l) (by omega : i < p.files.l.length)
    have hwr := wrap_i (by omega : i < p.files.l.length) (by unfold maxLen; omega)
    obtain ⟨a1, h1⟩ := e126 (n := n) (by omega) x.pattern (hf.files x (List.mem_of_getElem? hx)) (.int .i64 0) (.int .i64 0) rfl rfl rfl rfl
    obtain ⟨b1, h2⟩ := e125 (n := n) (by omega) p x.ctx
    have hb : ∀ (C : CallP) s, POp.sem C [.int .i64 3, .str s] (.build [.int .i64 0, .str [], .int .i64 0, .int .i64 0] [(0, 1), (1, 1)]) = some (.agg [.int .i64 3, .str s, .int .i64 0, .int .i64 0]) := fun _ _ => rfl
    have h5 := ih (i + 1) m u σ (by omega) (by omega)
    simp only [Int.natCast_add, Int.natCast_one] at h5
    refine ans_iter ?_
    by_cases he : x.pattern = []
    · simp -implicitDefEqProofs [L78_0, B78_0, hi', hx, he]
    · have he' : List.isEmpty x.pattern = false := by simpa using he
      simp -implicitDefEqProofs +contextual [L78_0, B78_0, hi', hx, hwr, he, he', h1, h2, h5, hb, -POp.sem.eq_17]
theorem l78_1 : ∀ (k i m : Nat) (ns : List Bs) (v u : DVal) (σ : Sto), i + k = p.sids.l.length → k < m → ns.length = i → Own σ 1 v (srows ns) →
    Ans (iterJ 0 (L78_1 (cpJ PR n) (ciJ PR n) n p.d) m [.int .i64 i, v, u] σ) (doneI any) := by
  intro k
  induction k with
  | zero =>
    intro i m ns v u σ hi hm hns hv
    obtain ⟨m, rfl⟩ : ∃ j, m = j + 1 := ⟨m - 1, by omega⟩
    have hi' : ¬ ((i : Int) < p.sids.l.length) := by omega
    have hlen := hp.files
    have h1 := doneI_step (l := 0) (f := L78_1 (cpJ PR n) (ciJ PR n) n p.d) (m := m) (l78_0 hn hp hf p.files.l.length 0 n u σ (by omega) (by omega))
    simp only [Int.natCast_zero] at h1
    refine ans_iter ?_
    simp -implicitDefEqProofs [L78_1, B78_1, hi', h1]
  | succ k ih =>
    intro i m ns v u σ hi hm hns hv
    obtain ⟨m, rfl⟩ : ∃ j, m = j + 1 := ⟨m - 1, by omega⟩
    have hlen := hp.sids
    have hi' : ((i : Int) < p.sids.l.length) := by omega
    obtain ⟨x, hx⟩ := get_some (l := p.sids.l) (by omega : i < p.sids.l.length)
    have hwr := wrap_i (by omega : i < p.sids.l.length) (by unfold maxLen; omega)
    obtain ⟨z, hz⟩ := own_seal hv
    obtain ⟨e, h1, -⟩ := nm1 (n := n) (by omega) x.name (hf.sids x (List.mem_of_getElem? hx)) z ns (by omega)
    obtain ⟨v', σ', h3, hv'⟩ := own_one (own := 1) (r := [.str x.name]) hv (by rw [List.length_map]; omega)
    obtain ⟨b1, h2⟩ := e125 (n := n) (by omega) p x.ctx
    have h4 := ih (i + 1) m (ns ++ [x.name]) v' u σ' (by omega) (by omega) (by simp [hns]) (by simpa using hv')
    simp only [Int.natCast_add, Int.natCast_one] at h4
    refine ans_iter ?_
    simp -implicitDefEqProofs [L78_1, B78_1, hi', hx, hwr, hz, h1, h2, h3, h4]
theorem l79_0 : ∀ (k i m : Nat) (ns : List Bs) (v u : DVal) (σ : Sto), i + k = p.asserts.l.length → k < m → ns.length = i → Own σ 1 v (srows ns) →
    Ans (iterJ 0 (L79_0 (cpJ PR n) (ciJ PR n) n p.d) m [.int .i64 i, v, u] σ) (doneI any) := by
  intro k
  induction k with
  | zero =>
    intro i m ns v u σ hi hm hns hv
    obtain ⟨m, rfl⟩ : ∃ j, m = j + 1 := ⟨m - 1, by omega⟩
    have hi' : ¬ ((i : Int) < p.asserts.l.length) := by omega
    refine ans_iter ?_
    simp -implicitDefEqProofs [L79_0, B79_0, hi']
  | succ k ih =>
    intro i m ns v u σ hi hm hns hv
    obtain ⟨m, rfl⟩ : ∃ j, m = j + 1 := ⟨m - 1, by omega⟩
    have hlen := hp.asserts
    have hi' : ((i : Int) < p.asserts.l.length) := by omega
    obtain ⟨x, hx⟩ := get_some (l := p.asserts.l) (by omega : i < p.asserts.l.length)
    have hwr := wrap_i (by omega : i < p.asserts.l.length) (by unfold maxLen; omega)
    obtain ⟨z, hz⟩ := own_seal hv
    obtain ⟨e, h1, -⟩ := nm1 (n := n) (by omega) x.name (hf.asserts x (List.mem_of_getElem? hx)) z ns (by omega)
    obtain ⟨v', σ', h3, hv'⟩ := own_one (own := 1) (r := [.str x.name]) hv (by rw [List.length_map]; omega)
    obtain ⟨a1, a2, h2⟩ := e113 (n := n) (by omega) x.source p.types.l.length hp.short.types
    obtain ⟨b1, b2, h5⟩ := e113 (n := n) (by omega) x.target p.types.l.length hp.short.types
    have h4 := ih (i + 1) m (ns ++ [x.name]) v' u σ' (by omega) (by omega) (by simp [hns]) (by simpa using hv')
    simp only [Int.natCast_add, Int.natCast_one] at h4
    refine ans_iter ?_
    simp -implicitDefEqProofs +contextual [L79_0, B79_0, hi', hx, hwr, hz, h1, h2, h3, h4, h5]
theorem e74 : ∃ i, cpJ PR (n + 1) 74 [p.d] = some (.int .i64 i) := by
  have hlen := hp.conds
  obtain ⟨i, σ, h, -⟩ := (l74_1 hn hp hf p.conds.l.length 0 n (.int .i64 0) emptySto (by omega) (by omega)).doneI
  simp only [Int.natCast_zero] at h
  have : Ans (cpJ PR (n + 1) 74 [p.d]) (isI any) := by
    rw [u74]
    refine ans_fin ?_
    simp -implicitDefEqProofs [D74, h]
  obtain ⟨b, h, -⟩ := this.int
  exact ⟨b, h⟩
theorem e75 : ∃ i, cpJ PR (n + 1) 75 [p.d] = some (.int .i64 i) := by
  have hlen := hp.trans
  obtain ⟨i, σ, h, -⟩ := (l75_1 hn hp hf emptySto.nobj p.trans.l.length 0 n (.int .i64 0) (emptySto.new (.agg [.int .i64 0, .int .i64 0, .int .i64 0, .int .i64 0])) (fun _ => 0) (by omega) (by omega) (by simp) (by rw [Sto.new_obj]; rfl)).doneI
  simp only [Int.natCast_zero] at h
  have : Ans (cpJ PR (n + 1) 75 [p.d]) (isI any) := by
    rw [u75]
    refine ans_fin ?_
    simp -implicitDefEqProofs [D75, alloc_obj, h]
  obtain ⟨b, h, -⟩ := this.int
  exact ⟨b, h⟩
omit hf in
theorem e76 : ∃ i, cpJ PR (n + 1) 76 [p.d] = some (.int .i64 i) := by
  have hlen := hp.roleTrans
  obtain ⟨i, σ, h, -⟩ := (l76_1 hn hp p.roleTrans.l.length 0 n (.int .i64 0) emptySto (by omega) (by omega)).doneI
  simp only [Int.natCast_zero] at h
  have : Ans (cpJ PR (n + 1) 76 [p.d]) (isI any) := by
    rw [u76]
    refine ans_fin ?_
    simp -implicitDefEqProofs [D76, h]
  obtain ⟨b, h, -⟩ := this.int
  exact ⟨b, h⟩
theorem e77 : ∃ i, cpJ PR (n + 1) 77 [p.d] = some (.int .i64 i) := by
  have hlen := hp.constrs
  obtain ⟨i, σ, h, -⟩ := (l77_0 hn hp hf p.constrs.l.length 0 n (.int .i64 0) emptySto (by omega) (by omega)).doneI
  simp only [Int.natCast_zero] at h
  have : Ans (cpJ PR (n + 1) 77 [p.d]) (isI any) := by
    rw [u77]
    refine ans_fin ?_
    simp -implicitDefEqProofs [D77, h]
  obtain ⟨b, h, -⟩ := this.int
  exact ⟨b, h⟩
theorem e78 : ∃ i, cpJ PR (n + 1) 78 [p.d] = some (.int .i64 i) := by
  have hlen := hp.sids
  obtain ⟨i, σ, h, -⟩ := (l78_1 hn hp hf p.sids.l.length 0 n [] .nils (.int .i64 0) emptySto (by omega) (by omega) rfl (own_nils _ _)).doneI
  simp only [Int.natCast_zero] at h
  have : Ans (cpJ PR (n + 1) 78 [p.d]) (isI any) := by
    rw [u78]
    refine ans_fin ?_
    simp -implicitDefEqProofs [D78, h]
  obtain ⟨b, h, -⟩ := this.int
  exact ⟨b, h⟩
theorem e79 : ∃ i, cpJ PR (n + 1) 79 [p.d] = some (.int .i64 i) := by
  have hlen := hp.asserts
  obtain ⟨i, σ, h, -⟩ := (l79_0 hn hp hf p.asserts.l.length 0 n [] .nils (.int .i64 0) emptySto (by omega) (by omega) rfl (own_nils _ _)).doneI
  simp only [Int.natCast_zero] at h
  have : Ans (cpJ PR (n + 1) 79 [p.d]) (isI any) := by
    rw [u79]
    refine ans_fin ?_
    simp -implicitDefEqProofs [D79, h]
  obtain ⟨b, h, -⟩ := this.int
  exact ⟨b, h⟩
end
def firstV : List Int → Int
  | [] => 0
  | x :: r => if x = 0 then firstV r else x
theorem firstV_zero : ∀ {l : List Int}, firstV l = 0 → ∀ x ∈ l, x = 0
  | [], _, _, h => by simp at h
  | y :: r, h, x, hx => by
    unfold firstV at h
    split at h
    · rename_i e
      rcases List.mem_cons.1 hx with rfl | hx
      · exact e
      · exact firstV_zero h x hx
    · rename_i e; exact absurd h e
theorem l68 {n : Nat} (l : List Int) (hl : l.length ≤ 100) (σ : Sto) : ∀ (k i m : Nat) (u : DVal), i + k = l.length → k < m →
    iterJ 0 (L68_0 (cpJ PR n) (ciJ PR n) n (.slice false 1 1 (l.map fun x => [.int .i64 x]))) m [.int .i64 i, u] σ = some (.done (.int .i64 (firstV (l.drop i))) σ) := by
  intro k
  induction k with
  | zero =>
    intro i m u hi hm
    obtain ⟨m, rfl⟩ : ∃ j, m = j + 1 := ⟨m - 1, by omega⟩
    have hi' : ¬ ((i : Int) < l.length) := by omega
    refine iterJ_done ?_
    rw [List.drop_eq_nil_of_le (by omega)]
    simp -implicitDefEqProofs [L68_0, B68_0, hi', firstV]
  | succ k ih =>
    intro i m u hi hm
    obtain ⟨m, rfl⟩ : ∃ j, m = j + 1 := ⟨m - 1, by omega⟩
    have hi' : ((i : Int) < l.length) := by omega
    obtain ⟨x, hx⟩ := get_some (by omega : i < l.length)
    have hwr := wrap_i (by omega : i < l.length) (by unfold maxLen; omega)
    rw [drop_get hx]
    by_cases e : x = 0
    · subst e
      refine (iterJ_next' (vs' := [.int .i64 ((i + 1 : Nat) : Int), u]) (σ' := σ) ?_).trans ((ih (i + 1) m u (by omega) (by omega)).trans ?_)
      · simp -implicitDefEqProofs [L68_0, B68_0, hi', hx, hwr]
      · simp [firstV]
    · refine iterJ_done ?_
      simp -implicitDefEqProofs [L68_0, B68_0, hi', hx, e, firstV]
theorem e68 {n : Nat} (hn : 200 ≤ n) (l : List Int) (hl : l.length ≤ 100) : cpJ PR n 68 [.slice false 1 1 (l.map fun x => [.int .i64 x])] = some (.int .i64 (firstV l)) := by
  obtain ⟨n, rfl⟩ : ∃ m, n = m + 1 := ⟨n - 1, by omega⟩
  have h := l68 (n := n) l hl emptySto l.length 0 n (.int .i64 0) (by omega) (by omega)
  simp only [Int.natCast_zero, List.drop_zero] at h
  rw [u68]
  simp -implicitDefEqProofs [D68, h]
structure Right (p : PolV) : Prop where
  types : Names (tnames p.types.l) []
  roles : RolesOk p
  users : Names (p.users.l.map UserV.name) []
  cats : Cats p
theorem e35 {n d : Nat} (hn : maxLen + 1400 + d ≤ n) {p : PolV} (hp : SmallP p) (hf : PFit d p) : ∃ i, cpJ PR n 35 [p.d] = some (.int .i64 i) ∧ (i = 0 → Right p) := by
  obtain ⟨n, rfl⟩ : ∃ m, n = m + 2 := ⟨n - 2, by omega⟩
  obtain ⟨i1, h1⟩ := e69 (n := n + 1) (by omega) hf hp
  obtain ⟨i2, h2, k2⟩ := e70 (n := n + 1) (by omega) hf hp
  obtain ⟨i3, h3, k3⟩ := e71 (n := n + 1) (by omega) hf hp
  obtain ⟨i4, h4, k4⟩ := e72 (n := n + 1) (by omega) hf hp
  obtain ⟨i5, h5, k5⟩ := e73 (n := n + 1) (by omega) hf hp
  obtain ⟨i6, h6⟩ := e74 (n := n) (d := d) (by omega) hp hf
  obtain ⟨i7, h7⟩ := e75 (n := n) (d := d) (by omega) hp hf
  obtain ⟨i8, h8⟩ := e76 (n := n) (d := d) (by omega) hp
  obtain ⟨i9, h9⟩ := e77 (n := n) (d := d) (by omega) hp hf
  obtain ⟨i10, h10⟩ := e78 (n := n) (d := d) (by omega) hp hf
  obtain ⟨i11, h11⟩ := e79 (n := n) (d := d) (by omega) hp hf
  have f1 := e68 (n := n + 1) (by omega) [i1, i2, i3] (by simp)
  have f2 := e68 (n := n + 1) (by omega) [i4, i5, i6, i7, i8, i9, i10, i11] (by simp)
  simp only [List.map_cons, List.map_nil] at f1 f2
  have : Ans (cpJ PR (n + 2) 35 [p.d]) (isI fun i => i = 0 → Right p) := by
    rw [u35]
    refine ans_fin ?_
    simp -implicitDefEqProofs [D35, h1, h2, h3, h4, h5, h6, h7, h8, h9, h10, h11, f1, f2]
    refine ⟨fun a b => absurd b a, fun a b => ?_⟩
    have q1 := firstV_zero a
    have q2 := firstV_zero b
    exact ⟨k2 (q1 _ (by simp)), k3 (q1 _ (by simp)), k4 (q2 _ (by simp)), k5 (q2 _ (by simp))⟩
  exact this.int
end Go.Proofs.YthpccimmmfonjaaGreatDoor
namespace Go.Proofs.YthpccimmmfonjaaGreatDoor
set_option linter.unusedVariables false
set_option linter.unusedSimpArgs false
set_option maxRecDepth 20000
set_option maxHeartbeats 4000000
open Go
theorem doneB_step {Q : Bool → Prop} {l : Nat} {f : List DVal → Sto → Option Out} {m : Nat} {o : Option Out} (h : Ans o (doneB Q)) : Ans o (stepR l f m (doneB Q)) :=
  h.mono fun x hx => by
    cases x with
    | done v σ => exact hx
    | next i vs σ => exact hx.elim
structure Lens (p : PolV) : Prop where
  types : p.types.l.length ≤ 12
  attrs : p.attrs.l.length ≤ 6
  classes : p.classes.l.length ≤ 6
  rules : p.rules.l.length ≤ 40
  conds : p.conds.l.length ≤ 6
  bools : p.bools.l.length ≤ 6
  constrs : p.constrs.l.length ≤ 12
  users : p.users.l.length ≤ 8
  roles : p.roles.l.length ≤ 8
  trans : p.trans.l.length ≤ 36
  roleTrans : p.roleTrans.l.length ≤ 12
  ranges : p.ranges.l.length ≤ 12
  sens : p.sens.l.length ≤ 6
  cats : p.cats.l.length ≤ 10
  sids : p.sids.l.length ≤ 8
  files : p.files.l.length ≤ 12
  asserts : p.asserts.l.length ≤ 8
section
variable {n d : Nat} (hn : maxLen + 100 + d ≤ n) {p : PolV} (hp : Lens p) (hf : PFit d p) (a : Nat)
include hn hp hf
theorem l34_0 (h0 : ∀ t ∈ p.types.l, t.aliases.l.length ≤ 4) : ∀ (k i m : Nat) (u : DVal) (σ : Sto) (g : Nat → Int), i + k = p.constrs.l.length → k < m → a < σ.nobj → σ.obj a = arrD 4 (fun j => .int .i64 (g j)) →
    Ans (iterJ 3 (L34_0 (cpJ PR n) (ciJ PR n) n p.d (.obj a 0)) m [.int .i64 i, u] σ) (doneB fun b => b = true → ∀ t ∈ p.types.l, t.aliases.l.length ≤ 4) := by
  intro k
  induction k with
  | zero =>
    intro i m u σ g hi hm ha ho
    obtain ⟨m, rfl⟩ : ∃ j, m = j + 1 := ⟨m - 1, by omega⟩
    have hi' : ¬ ((i : Int) < p.constrs.l.length) := by omega
    have h1 := ld_arr (i := 1) ho ha (by omega)
    have h2 := ld_arr (i := 2) ho ha (by omega)
    have h3 := ld_arr (i := 3) ho ha (by omega)
    have h4 : ∀ b : Bool, b = true → ∀ t ∈ p.types.l, t.aliases.l.length ≤ 4 := fun _ _ => h0
    refine ans_iter ?_
    by_cases q1 : g 1 ≤ 12 <;> by_cases q2 : g 2 ≤ 12 <;> simp -implicitDefEqProofs [L34_0, B34_0, hi', h1, h2, h3, q1, q2] <;> exact fun _ => h0
  | succ k ih =>
    intro i m u σ g hi hm ha ho
    obtain ⟨m, rfl⟩ : ∃ j, m = j + 1 := ⟨m - 1, by omega⟩
    have hlen := hp.constrs
    have hi' : ((i : Int) < p.constrs.l.length) := by omega
    obtain ⟨x, hx⟩ := get_some (l := p.constrs.l) (by omega : i < p.constrs.l.length)
    have hwr := wrap_i (by omega : i < p.constrs.l.length) (by unfold maxLen; omega)
    obtain ⟨j, h1⟩ := e67 (n := n) (hf.constrs x (List.mem_of_getElem? hx)) (by omega)
    have h5 := ih (i + 1) m u σ g (by omega) (by omega) ha ho
    simp only [Int.natCast_add, Int.natCast_one] at h5
    refine ans_iter ?_
    simp -implicitDefEqProofs [L34_0, B34_0, hi', hx, hwr, h1, h5]
theorem l34_1 (h0 : ∀ t ∈ p.types.l, t.aliases.l.length ≤ 4) : ∀ (k i m : Nat) (u : DVal) (σ : Sto) (g : Nat → Int), i + k = p.conds.l.length → k < m → a < σ.nobj → σ.obj a = arrD 4 (fun j => .int .i64 (g j)) →
    Ans (iterJ 2 (L34_1 (cpJ PR n) (ciJ PR n) n p.d (.obj a 0)) m [.int .i64 i, u] σ) (doneB fun b => b = true → ∀ t ∈ p.types.l, t.aliases.l.length ≤ 4) := by
  intro k
  induction k with
  | zero =>
    intro i m u σ g hi hm ha ho
    obtain ⟨m, rfl⟩ : ∃ j, m = j + 1 := ⟨m - 1, by omega⟩
    have hi' : ¬ ((i : Int) < p.conds.l.length) := by omega
    have hlen := hp.constrs
    have h1 := doneB_step (l := 2) (f := L34_1 (cpJ PR n) (ciJ PR n) n p.d (.obj a 0)) (m := m) (l34_0 hn hp hf a h0 p.constrs.l.length 0 n u σ g (by omega) (by omega) ha ho)
    simp only [Int.natCast_zero] at h1
    refine ans_iter ?_
    simp -implicitDefEqProofs [L34_1, B34_1, hi', h1]
  | succ k ih =>
    intro i m u σ g hi hm ha ho
    obtain ⟨m, rfl⟩ : ∃ j, m = j + 1 := ⟨m - 1, by omega⟩
    have hlen := hp.conds
    have hi' : ((i : Int) < p.conds.l.length) := by omega
    obtain ⟨x, hx⟩ := get_some (l := p.conds.l) (by omega : i < p.conds.l.length)
    have hwr := wrap_i (by omega : i < p.conds.l.length) (by unfold maxLen; omega)
    obtain ⟨j, h1⟩ := e67 (n := n) (hf.conds x (List.mem_of_getElem? hx)) (by omega)
    have h5 := ih (i + 1) m u σ g (by omega) (by omega) ha ho
    simp only [Int.natCast_add, Int.natCast_one] at h5
    refine ans_iter ?_
    simp -implicitDefEqProofs [L34_1, B34_1, hi', hx, hwr, h1, h5]
theorem l34_2 : ∀ (k i m : Nat) (u : DVal) (σ : Sto) (g : Nat → Int), i + k = p.types.l.length → k < m → a < σ.nobj → σ.obj a = arrD 4 (fun j => .int .i64 (g j)) → (∀ t ∈ p.types.l.take i, t.aliases.l.length ≤ 4) →
    Ans (iterJ 1 (L34_2 (cpJ PR n) (ciJ PR n) n p.d (.obj a 0)) m [.int .i64 i, u] σ) (doneB fun b => b = true → ∀ t ∈ p.types.l, t.aliases.l.length ≤ 4) := by
  intro k
  induction k with
  | zero =>
    intro i m u σ g hi hm ha ho h0
    obtain ⟨m, rfl⟩ : ∃ j, m = j + 1 := ⟨m - 1, by omega⟩
    have hi' : ¬ ((i : Int) < p.types.l.length) := by omega
    rw [List.take_of_length_le (by omega)] at h0
    have hlen := hp.conds
    have h1 := doneB_step (l := 1) (f := L34_2 (cpJ PR n) (ciJ PR n) n p.d (.obj a 0)) (m := m) (l34_1 hn hp hf a h0 p.conds.l.length 0 n u σ g (by omega) (by omega) ha ho)
    simp only [Int.natCast_zero] at h1
    refine ans_iter ?_
    simp -implicitDefEqProofs [L34_2, B34_2, hi', h1]
  | succ k ih =>
    intro i m u σ g hi hm ha ho h0
    obtain ⟨m, rfl⟩ : ∃ j, m = j + 1 := ⟨m - 1, by omega⟩
    have hlen := hp.types
    have hi' : ((i : Int) < p.types.l.length) := by omega
    obtain ⟨x, hx⟩ := get_some (l := p.types.l) (by omega : i < p.types.l.length)
    have hwr := wrap_i (by omega : i < p.types.l.length) (by unfold maxLen; omega)
    refine ans_iter ?_
    by_cases hal : x.aliases.l.length ≤ 4
    · have h5 := ih (i + 1) m u σ g (by omega) (by omega) ha ho (by
        rw [take_get hx]
        intro t ht
        rcases List.mem_append.1 ht with ht | ht
        · exact h0 t ht
        · rw [List.mem_singleton.1 ht]; exact hal)
      simp only [Int.natCast_add, Int.natCast_one] at h5
      have hal' : ¬ (4 : Int) < x.aliases.l.length := by omega
      simp -implicitDefEqProofs [L34_2, B34_2, hi', hx, hwr, hal', h5]
    · have hal' : (4 : Int) < x.aliases.l.length := by omega
      simp -implicitDefEqProofs [L34_2, B34_2, hi', hx, hal']
theorem l34_3 : ∀ (k i m : Nat) (σ : Sto) (g : Nat → Int), i + k = p.trans.l.length → k < m → a < σ.nobj → σ.obj a = arrD 4 (fun j => .int .i64 (g j)) →
    Ans (iterJ 0 (L34_3 (cpJ PR n) (ciJ PR n) n p.d (.obj a 0)) m [.int .i64 i] σ) (doneB fun b => b = true → ∀ t ∈ p.types.l, t.aliases.l.length ≤ 4) := by
  intro k
  induction k with
  | zero =>
    intro i m σ g hi hm ha ho
    obtain ⟨m, rfl⟩ : ∃ j, m = j + 1 := ⟨m - 1, by omega⟩
    have hi' : ¬ ((i : Int) < p.trans.l.length) := by omega
    have hlen := hp.types
    have h1 := doneB_step (l := 0) (f := L34_3 (cpJ PR n) (ciJ PR n) n p.d (.obj a 0)) (m := m) (l34_2 hn hp hf a p.types.l.length 0 n (.bool false) σ g (by omega) (by omega) ha ho (by simp))
    simp only [Int.natCast_zero] at h1
    refine ans_iter ?_
    simp -implicitDefEqProofs [L34_3, B34_3, hi', h1]
  | succ k ih =>
    intro i m σ g hi hm ha ho
    obtain ⟨m, rfl⟩ : ∃ j, m = j + 1 := ⟨m - 1, by omega⟩
    have hlen := hp.trans
    have hi' : ((i : Int) < p.trans.l.length) := by omega
    obtain ⟨x, hx⟩ := get_some (l := p.trans.l) (by omega : i < p.trans.l.length)
    have hwr := wrap_i (by omega : i < p.trans.l.length) (by unfold maxLen; omega)
    refine ans_iter ?_
    by_cases hk : 0 < x.kind ∧ x.kind < 4
    · obtain ⟨j, hj⟩ : ∃ j : Nat, x.kind = j := ⟨x.kind.toNat, by omega⟩
      rw [hj] at hk
      have k1 : 0 < j := by omega
      have k2 := hk.2
      have h1 := idx_arr (id := a) (j := j) (by omega)
      have h2 := ld_arr (i := j) ho ha (by omega)
      have h3 := st_arr (i := j) (v := .int .i64 (IntKind.i64.wrap (g j + 1))) ho ha (by omega) rfl rfl
      have e : upd (fun j => DVal.int .i64 (g j)) j (.int .i64 (IntKind.i64.wrap (g j + 1))) = fun i => .int .i64 (upd g j (IntKind.i64.wrap (g j + 1)) i) := by
        funext i; simp only [upd]; split <;> rfl
      rw [e] at h3
      clear e
      generalize upd g j (IntKind.i64.wrap (g j + 1)) = g' at h3
      have h5 := ih (i + 1) m (σ.put a (arrD 4 fun i => .int .i64 (g' i))) g' (by omega) (by omega) (by simpa using ha) (by rw [Sto.put_obj])
      simp only [Int.natCast_add, Int.natCast_one] at h5
      simp -implicitDefEqProofs [L34_3, B34_3, hi', hx, hwr, hj, k1, k2, h1, h2, h3, h5, -idxASem.eq_1]
    · have h5 := ih (i + 1) m σ g (by omega) (by omega) ha ho
      simp only [Int.natCast_add, Int.natCast_one] at h5
      by_cases k1 : 0 < x.kind
      · have k2 : ¬ x.kind < 4 := fun h => hk ⟨k1, h⟩
        simp -implicitDefEqProofs [L34_3, B34_3, hi', hx, hwr, k1, k2, h5]
      · simp -implicitDefEqProofs [L34_3, B34_3, hi', hx, hwr, k1, h5]
end
theorem e34 {n d : Nat} (hn : maxLen + 200 + d ≤ n) {p : PolV} (hf : PFit d p) : ∃ b, cpJ PR n 34 [p.d] = some (.bool b) ∧ (b = true → SmallP p) := by
  obtain ⟨n, rfl⟩ : ∃ m, n = m + 1 := ⟨n - 1, by omega⟩
  have : Ans (cpJ PR (n + 1) 34 [p.d]) (isB fun b => b = true → SmallP p) := by
    rw [u34]
    refine ans_fin ?_
    simp -implicitDefEqProofs +contextual [D34, alloc_obj]
    intro q1 q2 q3 q4 q5 q6 q7 q8 q9 q10 q11 q12 q13 q14 q15 q16 q17
    have hp : Lens p := ⟨by omega, by omega, by omega, by omega, by omega, by omega, by omega, by omega, by omega, by omega, by omega, by omega, by omega, by omega, by omega, by omega, by omega⟩
    obtain ⟨b, σ, h, hb⟩ := (l34_3 (n := n) (by omega) hp hf emptySto.nobj p.trans.l.length 0 n (emptySto.new (.agg [.int .i64 0, .int .i64 0, .int .i64 0, .int .i64 0])) (fun _ => 0) (by omega) (by omega) (by simp) (by rw [Sto.new_obj]; rfl)).doneB
    simp only [Int.natCast_zero] at h
    rw [h]
    simp
    exact fun e => ⟨hp.types, hp.attrs, hp.classes, hp.rules, hp.conds, hp.bools, hp.constrs, hp.users, hp.roles, hp.trans, hp.roleTrans, hp.ranges, hp.sens, hp.cats, hp.sids, hp.files, hp.asserts, hb e⟩
  exact this.bool
structure Good' (p : PolV) : Prop extends Right p where
  small : SmallP p
theorem e11 {n d : Nat} (hn : maxLen + 2000 + d ≤ n) {p : PolV} (hf : PFit d p) : ∃ b, cpJ PR n 11 [p.d] = some (.bool b) ∧ (b = true → Good' p) := by
  obtain ⟨n, rfl⟩ : ∃ m, n = m + 1 := ⟨n - 1, by omega⟩
  obtain ⟨b, h1, hb⟩ := e34 (n := n) (by omega) hf
  cases b with
  | false => exact ⟨false, by rw [u11]; simp -implicitDefEqProofs [D11, h1], fun h => by cases h⟩
  | true =>
    obtain ⟨i, h2, hi⟩ := e35 (n := n) (by omega) (hb rfl) hf
    refine ⟨i == 0, by rw [u11]; simp -implicitDefEqProofs [D11, h1, h2], fun h => ?_⟩
    have hi0 : i = 0 := by simpa using h
    have hr := hi hi0
    exact ⟨⟨hr.types, hr.roles, hr.users, hr.cats⟩, hb rfl⟩
end Go.Proofs.YthpccimmmfonjaaGreatDoor
namespace Go.Proofs.YthpccimmmfonjaaGreatDoor
set_option linter.unusedVariables false
set_option maxRecDepth 100000
open Go
theorem dty_str {k : Nat} {cs : List DVal} (h : DTy Tryz.prog (k + 1) 9 cs) : ∃ s : Bs, cs = [.str s] ∧ s.length ≤ maxLen := by
  unfold DTy at h
  rw [Tryz.underlying9] at h
  exact h
theorem dty_int {k : Nat} {cs : List DVal} (h : DTy Tryz.prog (k + 1) 3 cs) : ∃ i : Int, cs = [.int .i64 i] := by
  unfold DTy at h
  rw [Tryz.underlying3] at h
  obtain ⟨i, h, -⟩ := h
  exact ⟨i, h⟩
theorem dty_bool {k : Nat} {cs : List DVal} (h : DTy Tryz.prog (k + 1) 4 cs) : ∃ b : Bool, cs = [.bool b] := by
  unfold DTy at h
  rw [Tryz.underlying4] at h
  exact h
theorem dty_u64 {k : Nat} {cs : List DVal} (h : DTy Tryz.prog (k + 1) 40 cs) : ∃ c : Nat, cs = [.int .u64 c] ∧ c < 18446744073709551616 := by
  unfold DTy at h
  rw [Tryz.underlying40] at h
  obtain ⟨i, rfl, h⟩ := h
  obtain ⟨c, rfl, hc⟩ := wf_u64 h
  exact ⟨c, rfl, hc⟩
theorem dty_lv {k : Nat} {cs : List DVal} (h : DTy Tryz.prog (k + 2) 42 cs) : ∃ l : LvV, cs = l.row := by
  unfold DTy at h
  rw [Tryz.underlying42] at h
  simp only [List.foldr] at h
  obtain ⟨a, b, rfl, h1, a2, b2, rfl, h2, rfl⟩ := h
  obtain ⟨s, rfl⟩ := dty_int h1
  obtain ⟨c, rfl, hc⟩ := dty_u64 h2
  exact ⟨⟨s, c, hc⟩, rfl⟩
theorem dty_rng {k : Nat} {cs : List DVal} (h : DTy Tryz.prog (k + 3) 44 cs) : ∃ l m : LvV, cs = l.row ++ m.row := by
  unfold DTy at h
  rw [Tryz.underlying44] at h
  simp only [List.foldr] at h
  obtain ⟨a, b, rfl, h1, a2, b2, rfl, h2, rfl⟩ := h
  obtain ⟨l, rfl⟩ := dty_lv h1
  obtain ⟨m, rfl⟩ := dty_lv h2
  exact ⟨l, m, by rw [List.append_nil]⟩
theorem dty_ctx {k : Nat} {cs : List DVal} (h : DTy Tryz.prog (k + 4) 46 cs) : ∃ c : CtxV, cs = c.row := by
  unfold DTy at h
  rw [Tryz.underlying46] at h
  simp only [List.foldr] at h
  obtain ⟨a, b, rfl, h1, a2, b2, rfl, h2, a3, b3, rfl, h3, a4, b4, rfl, h4, rfl⟩ := h
  obtain ⟨u, rfl⟩ := dty_int h1
  obtain ⟨r, rfl⟩ := dty_int h2
  obtain ⟨t, rfl⟩ := dty_int h3
  obtain ⟨l, m, rfl⟩ := dty_rng h4
  exact ⟨⟨u, r, t, l, m⟩, by rw [List.append_nil]; rfl⟩
theorem dty_set {k : Nat} {cs : List DVal} (h : DTy Tryz.prog (k + 2) 65 cs) : ∃ s : SetV, cs = s.row := by
  unfold DTy at h
  rw [Tryz.underlying65] at h
  obtain ⟨rows, h1, h2, rfl⟩ := h
  match rows, h1 with
  | [a, b, c, d], _ =>
    obtain ⟨x, rfl, hx⟩ := dty_u64 (h2 a (by simp))
    obtain ⟨y, rfl, hy⟩ := dty_u64 (h2 b (by simp))
    obtain ⟨z, rfl, hz⟩ := dty_u64 (h2 c (by simp))
    obtain ⟨w, rfl, hw⟩ := dty_u64 (h2 d (by simp))
    exact ⟨⟨fun i => match i with | 0 => x | 1 => y | 2 => z | 3 => w | _ => 0, fun i => by split <;> first | assumption | decide⟩, rfl⟩
theorem dty_strs {k : Nat} {cs : List DVal} (h : DTy Tryz.prog (k + 2) 28 cs) : ∃ s : Sl Bs, cs = [strs s] ∧ s.l.length ≤ maxLen ∧ ∀ x ∈ s.l, x.length ≤ maxLen := by
  unfold DTy at h
  rw [Tryz.underlying28] at h
  obtain ⟨z, es, rfl, h1, h2⟩ := h
  obtain ⟨l, rfl⟩ := rows_of (f := fun s : Bs => [DVal.str s]) fun r hr => by
    obtain ⟨s, rfl, -⟩ := dty_str (h1 r hr)
    exact ⟨s, rfl⟩
  refine ⟨⟨z, l⟩, rfl, by simpa using h2, fun x hx => ?_⟩
  obtain ⟨s, e, hs⟩ := dty_str (h1 [.str x] (List.mem_map.2 ⟨x, hx, rfl⟩))
  simp only [List.cons.injEq, DVal.str.injEq, and_true] at e
  rw [e]; exact hs
theorem wf_u32 {i : Int} (h : (Lit.int .u32 i).wf = true) : ∃ c : Nat, i = c ∧ c < 4294967296 := by
  simp [Lit.wf, IntKind.min, IntKind.max, IntKind.signed, IntKind.bits] at h
  exact ⟨i.toNat, by omega, by omega⟩
theorem dty_u32 {k : Nat} {cs : List DVal} (h : DTy Tryz.prog (k + 1) 120 cs) : ∃ c : Nat, cs = [.int .u32 c] ∧ c < 4294967296 := by
  unfold DTy at h
  rw [Tryz.underlying120] at h
  obtain ⟨i, rfl, h⟩ := h
  obtain ⟨c, rfl, hc⟩ := wf_u32 h
  exact ⟨c, rfl, hc⟩
theorem dty_ClassV {k : Nat} {cs : List DVal} (h : DTy Tryz.prog (k + 6) 125 cs) : ∃ x : ClassV, cs = x.row ∧ x.name.length ≤ maxLen ∧ x.perms.l.length ≤ maxLen ∧ ∀ s ∈ x.perms.l, s.length ≤ maxLen := by
  unfold DTy at h
  rw [Tryz.underlying125] at h
  simp only [List.foldr] at h
  obtain ⟨a0, b0, rfl, h0, a1, b1, rfl, h1, rfl⟩ := h
  obtain ⟨s0, rfl, q0⟩ := dty_str h0
  obtain ⟨s1, rfl, q1, r1⟩ := dty_strs h1
  exact ⟨⟨s0, s1⟩, by simp [ClassV.row], q0, q1, r1⟩
theorem dty_TypeV {k : Nat} {cs : List DVal} (h : DTy Tryz.prog (k + 6) 69 cs) : ∃ x : TypeV, cs = x.row ∧ x.name.length ≤ maxLen ∧ x.aliases.l.length ≤ maxLen ∧ ∀ s ∈ x.aliases.l, s.length ≤ maxLen := by
  unfold DTy at h
  rw [Tryz.underlying69] at h
  simp only [List.foldr] at h
  obtain ⟨a0, b0, rfl, h0, a1, b1, rfl, h1, a2, b2, rfl, h2, rfl⟩ := h
  obtain ⟨s0, rfl, q0⟩ := dty_str h0
  obtain ⟨s1, rfl, q1, r1⟩ := dty_strs h1
  obtain ⟨s2, rfl⟩ := dty_bool h2
  exact ⟨⟨s0, s1, s2⟩, by simp [TypeV.row], q0, q1, r1⟩
theorem dty_AttrV {k : Nat} {cs : List DVal} (h : DTy Tryz.prog (k + 6) 128 cs) : ∃ x : AttrV, cs = x.row ∧ x.name.length ≤ maxLen := by
  unfold DTy at h
  rw [Tryz.underlying128] at h
  simp only [List.foldr] at h
  obtain ⟨a0, b0, rfl, h0, a1, b1, rfl, h1, rfl⟩ := h
  obtain ⟨s0, rfl, q0⟩ := dty_str h0
  obtain ⟨s1, rfl⟩ := dty_set h1
  exact ⟨⟨s0, s1⟩, by simp [AttrV.row], q0⟩
theorem dty_RoleV {k : Nat} {cs : List DVal} (h : DTy Tryz.prog (k + 6) 74 cs) : ∃ x : RoleV, cs = x.row ∧ x.name.length ≤ maxLen := by
  unfold DTy at h
  rw [Tryz.underlying74] at h
  simp only [List.foldr] at h
  obtain ⟨a0, b0, rfl, h0, a1, b1, rfl, h1, a2, b2, rfl, h2, rfl⟩ := h
  obtain ⟨s0, rfl, q0⟩ := dty_str h0
  obtain ⟨s1, rfl⟩ := dty_set h1
  obtain ⟨s2, rfl⟩ := dty_set h2
  exact ⟨⟨s0, s1, s2⟩, by simp [RoleV.row], q0⟩
theorem dty_UserV {k : Nat} {cs : List DVal} (h : DTy Tryz.prog (k + 6) 67 cs) : ∃ x : UserV, cs = x.row ∧ x.name.length ≤ maxLen := by
  unfold DTy at h
  rw [Tryz.underlying67] at h
  simp only [List.foldr] at h
  obtain ⟨a0, b0, rfl, h0, a1, b1, rfl, h1, a2, b2, rfl, h2, a3, b3, rfl, h3, rfl⟩ := h
  obtain ⟨s0, rfl, q0⟩ := dty_str h0
  obtain ⟨s1, rfl⟩ := dty_set h1
  obtain ⟨s2, rfl⟩ := dty_lv h2
  obtain ⟨s3, t3, rfl⟩ := dty_rng h3
  exact ⟨⟨s0, s1, s2, s3, t3⟩, by simp [UserV.row], q0⟩
theorem dty_BoolV {k : Nat} {cs : List DVal} (h : DTy Tryz.prog (k + 6) 130 cs) : ∃ x : BoolV, cs = x.row ∧ x.name.length ≤ maxLen := by
  unfold DTy at h
  rw [Tryz.underlying130] at h
  simp only [List.foldr] at h
  obtain ⟨a0, b0, rfl, h0, a1, b1, rfl, h1, rfl⟩ := h
  obtain ⟨s0, rfl, q0⟩ := dty_str h0
  obtain ⟨s1, rfl⟩ := dty_bool h1
  exact ⟨⟨s0, s1⟩, by simp [BoolV.row], q0⟩
theorem dty_RuleV {k : Nat} {cs : List DVal} (h : DTy Tryz.prog (k + 6) 132 cs) : ∃ x : RuleV, cs = x.row := by
  unfold DTy at h
  rw [Tryz.underlying132] at h
  simp only [List.foldr] at h
  obtain ⟨a0, b0, rfl, h0, a1, b1, rfl, h1, a2, b2, rfl, h2, a3, b3, rfl, h3, a4, b4, rfl, h4, a5, b5, rfl, h5, a6, b6, rfl, h6, rfl⟩ := h
  obtain ⟨s0, rfl⟩ := dty_int h0
  obtain ⟨s1, rfl⟩ := dty_set h1
  obtain ⟨s2, rfl⟩ := dty_set h2
  obtain ⟨s3, rfl⟩ := dty_bool h3
  obtain ⟨s4, rfl⟩ := dty_int h4
  obtain ⟨s5, rfl, q5⟩ := dty_u32 h5
  obtain ⟨s6, rfl⟩ := dty_int h6
  exact ⟨⟨s0, s1, s2, s3, s4, s5, s6, q5⟩, by simp [RuleV.row]⟩
theorem dty_TransV {k : Nat} {cs : List DVal} (h : DTy Tryz.prog (k + 6) 116 cs) : ∃ x : TransV, cs = x.row ∧ x.name.length ≤ maxLen := by
  unfold DTy at h
  rw [Tryz.underlying116] at h
  simp only [List.foldr] at h
  obtain ⟨a0, b0, rfl, h0, a1, b1, rfl, h1, a2, b2, rfl, h2, a3, b3, rfl, h3, a4, b4, rfl, h4, a5, b5, rfl, h5, a6, b6, rfl, h6, rfl⟩ := h
  obtain ⟨s0, rfl⟩ := dty_int h0
  obtain ⟨s1, rfl⟩ := dty_set h1
  obtain ⟨s2, rfl⟩ := dty_set h2
  obtain ⟨s3, rfl⟩ := dty_int h3
  obtain ⟨s4, rfl, q4⟩ := dty_str h4
  obtain ⟨s5, rfl⟩ := dty_int h5
  obtain ⟨s6, rfl⟩ := dty_int h6
  exact ⟨⟨s0, s1, s2, s3, s4, s5, s6⟩, by simp [TransV.row], q4⟩
theorem dty_RoleTransV {k : Nat} {cs : List DVal} (h : DTy Tryz.prog (k + 6) 181 cs) : ∃ x : RoleTransV, cs = x.row := by
  unfold DTy at h
  rw [Tryz.underlying181] at h
  simp only [List.foldr] at h
  obtain ⟨a0, b0, rfl, h0, a1, b1, rfl, h1, a2, b2, rfl, h2, a3, b3, rfl, h3, rfl⟩ := h
  obtain ⟨s0, rfl⟩ := dty_set h0
  obtain ⟨s1, rfl⟩ := dty_set h1
  obtain ⟨s2, rfl⟩ := dty_int h2
  obtain ⟨s3, rfl⟩ := dty_int h3
  exact ⟨⟨s0, s1, s2, s3⟩, by simp [RoleTransV.row]⟩
theorem dty_RangeTransV {k : Nat} {cs : List DVal} (h : DTy Tryz.prog (k + 6) 183 cs) : ∃ x : RangeTransV, cs = x.row := by
  unfold DTy at h
  rw [Tryz.underlying183] at h
  simp only [List.foldr] at h
  obtain ⟨a0, b0, rfl, h0, a1, b1, rfl, h1, a2, b2, rfl, h2, a3, b3, rfl, h3, rfl⟩ := h
  obtain ⟨s0, rfl⟩ := dty_set h0
  obtain ⟨s1, rfl⟩ := dty_set h1
  obtain ⟨s2, rfl⟩ := dty_int h2
  obtain ⟨s3, t3, rfl⟩ := dty_rng h3
  exact ⟨⟨s0, s1, s2, s3, t3⟩, by simp [RangeTransV.row]⟩
theorem dty_SidV {k : Nat} {cs : List DVal} (h : DTy Tryz.prog (k + 6) 94 cs) : ∃ x : SidV, cs = x.row ∧ x.name.length ≤ maxLen := by
  unfold DTy at h
  rw [Tryz.underlying94] at h
  simp only [List.foldr] at h
  obtain ⟨a0, b0, rfl, h0, a1, b1, rfl, h1, rfl⟩ := h
  obtain ⟨s0, rfl, q0⟩ := dty_str h0
  obtain ⟨s1, rfl⟩ := dty_ctx h1
  exact ⟨⟨s0, s1⟩, by simp [SidV.row], q0⟩
theorem dty_FileV {k : Nat} {cs : List DVal} (h : DTy Tryz.prog (k + 6) 186 cs) : ∃ x : FileV, cs = x.row ∧ x.pattern.length ≤ maxLen := by
  unfold DTy at h
  rw [Tryz.underlying186] at h
  simp only [List.foldr] at h
  obtain ⟨a0, b0, rfl, h0, a1, b1, rfl, h1, a2, b2, rfl, h2, rfl⟩ := h
  obtain ⟨s0, rfl, q0⟩ := dty_str h0
  obtain ⟨s1, rfl⟩ := dty_int h1
  obtain ⟨s2, rfl⟩ := dty_ctx h2
  exact ⟨⟨s0, s1, s2⟩, by simp [FileV.row], q0⟩
theorem dty_AssertV {k : Nat} {cs : List DVal} (h : DTy Tryz.prog (k + 6) 193 cs) : ∃ x : AssertV, cs = x.row ∧ x.name.length ≤ maxLen := by
  unfold DTy at h
  rw [Tryz.underlying193] at h
  simp only [List.foldr] at h
  obtain ⟨a0, b0, rfl, h0, a1, b1, rfl, h1, a2, b2, rfl, h2, a3, b3, rfl, h3, rfl⟩ := h
  obtain ⟨s0, rfl, q0⟩ := dty_str h0
  obtain ⟨s1, rfl⟩ := dty_int h1
  obtain ⟨s2, rfl⟩ := dty_set h2
  obtain ⟨s3, rfl⟩ := dty_set h3
  exact ⟨⟨s0, s1, s2, s3⟩, by simp [AssertV.row], q0⟩
theorem ExprV.Fit.mono : ∀ {d m : Nat} {e : ExprV}, d ≤ m → e.Fit d → e.Fit m := by
  intro d
  induction d with
  | zero => intro m e _ h; cases h
  | succ d ih =>
    intro m e hm h
    obtain ⟨m, rfl⟩ : ∃ q, m = q + 1 := ⟨m - 1, by omega⟩
    cases h with
    | mk h1 h2 => exact .mk h1 fun e he => ih (by omega) (h2 e he)
theorem rows_ofP {α : Type} {f : α → List DVal} {Q : α → Prop} : ∀ {es : List (List DVal)}, (∀ r ∈ es, ∃ x, r = f x ∧ Q x) → ∃ l : List α, es = l.map f ∧ ∀ x ∈ l, Q x
  | [], _ => ⟨[], rfl, by simp⟩
  | e :: es, h => by
    obtain ⟨x, rfl, hx⟩ := h e (by simp)
    obtain ⟨l, rfl, hl⟩ := rows_ofP (es := es) fun r hr => h r (by simp [hr])
    exact ⟨x :: l, rfl, by simpa using ⟨hx, hl⟩⟩
theorem dty_expr : ∀ {k : Nat} {cs : List DVal}, DTy Tryz.prog k 119 cs → ∃ e : ExprV, cs = e.row ∧ e.Fit k := by
  intro k
  induction k using Nat.strongRecOn with
  | _ k ih =>
    intro cs hx
    match k, ih, hx with
    | 0, _, h => exact h.elim
    | 1, _, h =>
      unfold DTy at h
      rw [Tryz.underlying119] at h
      simp only [List.foldr] at h
      obtain ⟨a, b, rfl, h1, -⟩ := h
      exact h1.elim
    | k + 2, ih, h =>
      have h' := dty_mono (m := k + 6) (by omega) h
      unfold DTy at h
      rw [Tryz.underlying119] at h
      simp only [List.foldr] at h
      obtain ⟨a0, b0, rfl, h0, a1, b1, rfl, h1, a2, b2, rfl, h2, a3, b3, rfl, h3, a4, b4, rfl, h4, a5, b5, rfl, h5, a6, b6, rfl, h6, rfl⟩ := h
      obtain ⟨op, rfl⟩ := dty_int h0
      obtain ⟨a, rfl⟩ := dty_int h1
      obtain ⟨rel, rfl⟩ := dty_int h2
      obtain ⟨b, rfl⟩ := dty_int h3
      obtain ⟨names, rfl, -⟩ := dty_strs (dty_mono (m := k + 2) (by omega) h4)
      obtain ⟨set, rfl⟩ := dty_set (dty_mono (m := k + 2) (by omega) h5)
      unfold DTy at h6
      rw [Tryz.underlying29] at h6
      obtain ⟨z, es, rfl, h7, h8⟩ := h6
      obtain ⟨l, rfl, hl⟩ := rows_ofP (f := ExprV.row) fun r hr => ih k (by omega) (h7 r hr)
      exact ⟨.mk op a rel b names set z l, by rw [ExprV.row_mk]; rfl, .mk (by simpa using h8) fun e he => (hl e he).mono (by omega)⟩
theorem dty_ConstrV {k : Nat} {cs : List DVal} (h : DTy Tryz.prog (k + 6) 122 cs) : ∃ x : ConstrV, cs = x.row ∧ x.expr.Fit (k + 6) := by
  unfold DTy at h
  rw [Tryz.underlying122] at h
  simp only [List.foldr] at h
  obtain ⟨a0, b0, rfl, h0, a1, b1, rfl, h1, a2, b2, rfl, h2, a3, b3, rfl, h3, rfl⟩ := h
  obtain ⟨s0, rfl⟩ := dty_int h0
  obtain ⟨s1, rfl, q1⟩ := dty_u32 h1
  obtain ⟨s2, rfl⟩ := dty_bool h2
  obtain ⟨e, rfl, he⟩ := dty_expr h3
  exact ⟨⟨s0, s1, s2, e, q1⟩, by simp [ConstrV.row], he.mono (by omega)⟩
end Go.Proofs.YthpccimmmfonjaaGreatDoor
namespace Go.Proofs.YthpccimmmfonjaaGreatDoor
set_option linter.unusedVariables false
set_option maxRecDepth 100000
open Go
theorem dty_sl {α : Type} {f : α → List DVal} {Q : α → Prop} {t e : TypeId} {c k : Nat} {cs : List DVal} (hu : Tryz.prog.underlying t = some (.slice e)) (hc : Tryz.prog.cellsOf e = c)
    (hrow : ∀ r, DTy Tryz.prog k e r → ∃ x, r = f x ∧ Q x) (h : DTy Tryz.prog (k + 1) t cs) : ∃ s : Sl α, cs = [slOf c f s] ∧ (∀ x ∈ s.l, Q x) ∧ s.l.length ≤ maxLen := by
  unfold DTy at h
  rw [hu] at h
  simp only at h
  rw [hc] at h
  obtain ⟨z, es, rfl, h1, h2⟩ := h
  obtain ⟨l, rfl, hl⟩ := rows_ofP (f := f) (Q := Q) fun r hr => hrow r (h1 r hr)
  exact ⟨⟨z, l⟩, rfl, hl, by simpa using h2⟩
theorem dty_pol {k : Nat} {cs : List DVal} (h : DTy Tryz.prog (k + 8) 39 cs) : ∃ p : PolV, cs = p.row ∧ PFit (k + 6) p := by
  unfold DTy at h
  rw [Tryz.underlying39] at h
  simp only [List.foldr] at h
  obtain ⟨a0, b0, rfl, h0, a1, b1, rfl, h1, a2, b2, rfl, h2, a3, b3, rfl, h3, a4, b4, rfl, h4, a5, b5, rfl, h5, a6, b6, rfl, h6, a7, b7, rfl, h7, a8, b8, rfl, h8, a9, b9, rfl, h9, a10, b10, rfl, h10, a11, b11, rfl, h11, a12, b12, rfl, h12, a13, b13, rfl, h13, a14, b14, rfl, h14, a15, b15, rfl, h15, a16, b16, rfl, h16, rfl⟩ := h
  obtain ⟨s0, rfl, f0, -⟩ := dty_sl (f := ClassV.row) (Q := fun c => c.name.length ≤ maxLen ∧ c.perms.l.length ≤ maxLen ∧ ∀ s ∈ c.perms.l, s.length ≤ maxLen) Tryz.underlying22 (c := 2) (by kernel_rfl) (fun r hr => dty_ClassV hr) h0
  obtain ⟨s1, rfl, f1, -⟩ := dty_sl (f := TypeV.row) (Q := fun c => c.name.length ≤ maxLen ∧ c.aliases.l.length ≤ maxLen ∧ ∀ s ∈ c.aliases.l, s.length ≤ maxLen) Tryz.underlying23 (c := 3) (by kernel_rfl) (fun r hr => dty_TypeV hr) h1
  obtain ⟨s2, rfl, f2, -⟩ := dty_sl (f := AttrV.row) (Q := fun c => c.name.length ≤ maxLen) Tryz.underlying24 (c := 5) (by kernel_rfl) (fun r hr => dty_AttrV hr) h2
  obtain ⟨s3, rfl, f3, -⟩ := dty_sl (f := RoleV.row) (Q := fun c => c.name.length ≤ maxLen) Tryz.underlying25 (c := 9) (by kernel_rfl) (fun r hr => dty_RoleV hr) h3
  obtain ⟨s4, rfl, f4, -⟩ := dty_sl (f := UserV.row) (Q := fun c => c.name.length ≤ maxLen) Tryz.underlying26 (c := 11) (by kernel_rfl) (fun r hr => dty_UserV hr) h4
  obtain ⟨s5, rfl, f5, -⟩ := dty_sl (f := BoolV.row) (Q := fun c => c.name.length ≤ maxLen) Tryz.underlying27 (c := 2) (by kernel_rfl) (fun r hr => dty_BoolV hr) h5
  obtain ⟨s6, rfl, f6⟩ := dty_strs (dty_mono (m := k + 7) (by omega) h6)
  obtain ⟨s7, rfl, f7⟩ := dty_strs (dty_mono (m := k + 7) (by omega) h7)
  obtain ⟨s8, rfl, f8, -⟩ := dty_sl (f := ExprV.row) (Q := fun e => e.Fit (k + 6)) Tryz.underlying29 (c := 10) (by kernel_rfl) (fun r hr => dty_expr hr) h8
  obtain ⟨s9, rfl, f9, -⟩ := dty_sl (f := RuleV.row) (Q := fun _ => True) Tryz.underlying30 (c := 13) (by kernel_rfl) (fun r hr => (dty_RuleV hr).elim fun x hx => ⟨x, hx, trivial⟩) h9
  obtain ⟨s10, rfl, f10, -⟩ := dty_sl (f := TransV.row) (Q := fun c => c.name.length ≤ maxLen) Tryz.underlying31 (c := 13) (by kernel_rfl) (fun r hr => dty_TransV hr) h10
  obtain ⟨s11, rfl, f11, -⟩ := dty_sl (f := RoleTransV.row) (Q := fun _ => True) Tryz.underlying32 (c := 10) (by kernel_rfl) (fun r hr => (dty_RoleTransV hr).elim fun x hx => ⟨x, hx, trivial⟩) h11
  obtain ⟨s12, rfl, f12, -⟩ := dty_sl (f := RangeTransV.row) (Q := fun _ => True) Tryz.underlying33 (c := 13) (by kernel_rfl) (fun r hr => (dty_RangeTransV hr).elim fun x hx => ⟨x, hx, trivial⟩) h12
  obtain ⟨s13, rfl, f13, -⟩ := dty_sl (f := ConstrV.row) (Q := fun c => c.expr.Fit (k + 6)) Tryz.underlying34 (c := 13) (by kernel_rfl) (fun r hr => dty_ConstrV hr) h13
  obtain ⟨s14, rfl, f14, -⟩ := dty_sl (f := SidV.row) (Q := fun c => c.name.length ≤ maxLen) Tryz.underlying35 (c := 8) (by kernel_rfl) (fun r hr => dty_SidV hr) h14
  obtain ⟨s15, rfl, f15, -⟩ := dty_sl (f := FileV.row) (Q := fun c => c.pattern.length ≤ maxLen) Tryz.underlying36 (c := 9) (by kernel_rfl) (fun r hr => dty_FileV hr) h15
  obtain ⟨s16, rfl, f16, -⟩ := dty_sl (f := AssertV.row) (Q := fun c => c.name.length ≤ maxLen) Tryz.underlying37 (c := 10) (by kernel_rfl) (fun r hr => dty_AssertV hr) h16
  exact ⟨⟨s0, s1, s2, s3, s4, s5, s6, s7, s8, s9, s10, s11, s12, s13, s14, s15, s16⟩, by simp [PolV.row], ⟨f0, f1, f2, f3, f4, f5, f6.2, f7.2, f8, f10, f13, f14, f15, f16⟩⟩
theorem arg_pol {k : Nat} {d : DVal} (h : DTyArg Tryz.prog k 39 d) : ∃ p : PolV, d = p.d ∧ PFit (k + 6) p := by
  have h' := dtyArg_mono (m := k + 8) (by omega) h
  unfold DTyArg at h'
  rw [Tryz.underlying39] at h'
  obtain ⟨cs, rfl, h2⟩ := h'
  obtain ⟨p, rfl, hp⟩ := dty_pol h2
  exact ⟨p, rfl, hp⟩
theorem arg_ctx {k : Nat} {d : DVal} (h : DTyArg Tryz.prog k 46 d) : ∃ c : CtxV, d = c.d := by
  have h' := dtyArg_mono (m := k + 8) (by omega) h
  unfold DTyArg at h'
  rw [Tryz.underlying46] at h'
  obtain ⟨cs, rfl, h2⟩ := h'
  obtain ⟨c, rfl⟩ := dty_ctx h2
  exact ⟨c, rfl⟩
theorem arg_str {k : Nat} {d : DVal} (h : DTyArg Tryz.prog k 9 d) : ∃ s : Bs, d = .str s := by
  have h' := dtyArg_mono (m := k + 8) (by omega) h
  unfold DTyArg at h'
  rw [Tryz.underlying9] at h'
  obtain ⟨s, h1, -⟩ := dty_str h'
  simp only [List.cons.injEq, and_true] at h1
  exact ⟨s, h1⟩
end Go.Proofs.YthpccimmmfonjaaGreatDoor
namespace Go.Proofs.YthpccimmmfonjaaGreatDoor
set_option linter.unusedVariables false
set_option linter.unusedSimpArgs false
set_option maxRecDepth 20000
set_option maxHeartbeats 2000000
open Go
def endR (c : Nat) : Nat → Nat → Nat
  | 0, t => t
  | k + 1, t => if t + 1 < 64 ∧ c.testBit (t + 1) = true then endR c k (t + 1) else t
def runsR (c : Nat) : Nat → Nat → List (Nat × Nat)
  | 0, _ => []
  | k + 1, i => if i < 64 then (if c.testBit i = true then (i, endR c 64 i) :: runsR c k (endR c 64 i + 1) else runsR c k (i + 1)) else []
theorem endR_le {c : Nat} : ∀ {k t : Nat}, t ≤ 63 → t ≤ endR c k t ∧ endR c k t ≤ 63
  | 0, t, h => ⟨Nat.le_refl _, h⟩
  | k + 1, t, h => by
    unfold endR
    split
    · rename_i hc
      have := endR_le (c := c) (k := k) (t := t + 1) (by omega)
      omega
    · omega
theorem endR_bit {c : Nat} : ∀ {k t : Nat}, c.testBit t = true → c.testBit (endR c k t) = true
  | 0, t, h => h
  | k + 1, t, h => by
    unfold endR
    split
    · rename_i hc; exact endR_bit hc.2
    · exact h
theorem runsR_none {c : Nat} : ∀ {k i : Nat}, (∀ j, i ≤ j → c.testBit j = false) → runsR c k i = []
  | 0, i, h => rfl
  | k + 1, i, h => by
    unfold runsR
    rw [h i (Nat.le_refl _)]
    simp only [Bool.false_eq_true, if_false]
    split
    · exact runsR_none fun j hj => h j (by omega)
    · rfl
theorem runsR_bits {c : Nat} : ∀ {k i : Nat} {p : Nat × Nat}, p ∈ runsR c k i → c.testBit p.1 = true ∧ c.testBit p.2 = true ∧ p.1 ≤ p.2 ∧ i ≤ p.1 ∧ p.2 ≤ 63
  | 0, i, p, h => by simp [runsR] at h
  | k + 1, i, p, h => by
    unfold runsR at h
    split at h
    · split at h
      · rename_i h1 h2
        have := endR_le (c := c) (k := 64) (t := i) (by omega)
        simp only [List.mem_cons] at h
        rcases h with rfl | h
        · exact ⟨h2, endR_bit h2, this.1, Nat.le_refl _, this.2⟩
        · have := runsR_bits h; exact ⟨this.1, this.2.1, this.2.2.1, by omega, this.2.2.2.2⟩
      · have := runsR_bits h; exact ⟨this.1, this.2.1, this.2.2.1, by omega, this.2.2.2.2⟩
    · simp at h
theorem runsR_len {c : Nat} : ∀ {k i : Nat}, (runsR c k i).length ≤ k
  | 0, i => Nat.le_refl _
  | k + 1, i => by
    unfold runsR
    split
    · split
      · have := runsR_len (c := c) (k := k) (i := endR c 64 i + 1)
        simp; omega
      · have := runsR_len (c := c) (k := k) (i := i + 1)
        omega
    · simp
def runRow (p : Nat × Nat) : List DVal := [.int .i64 p.1, .int .i64 p.2]
theorem l106_0 {n : Nat} (c : Nat) (hc : c < 18446744073709551616) (σ : Sto) (es : List (List DVal)) (hes : es.length ≤ 64) (i : Nat) : ∀ (k t m : Nat), 63 ≤ t + k → t ≤ 63 → k < m →
    iterJ 1 (L106_0 (cpJ PR n) (ciJ PR n) n (.int .u64 c) (apd σ 2 es).1) m [.agg [.int .i64 i, .int .i64 t]] (apd σ 2 es).2 =
      some (.next 0 [.int .i64 ((endR c k t + 1 : Nat) : Int), (apd σ 2 (es ++ [runRow (i, endR c k t)])).1] (apd σ 2 (es ++ [runRow (i, endR c k t)])).2) := by
  intro k
  induction k with
  | zero =>
    intro t m ht ht' hm
    obtain ⟨m, rfl⟩ : ∃ q, m = q + 1 := ⟨m - 1, by omega⟩
    refine iterJ_out ?_ (by decide)
    have hw : IntKind.i64.wrap ((t : Int) + 1) = (t : Int) + 1 := wrap_i64 (by omega) (by omega)
    have h64 : ¬ ((t : Int) + 1 < 64) := by omega
    have ha := app_apd (σ := σ) (sz := 2) (own := 1) (es := es) (r := runRow (i, t)) (by omega)
    simp only [runRow] at ha
    simp -implicitDefEqProofs [L106_0, B106_0, hw, h64, ha, endR, runRow]
  | succ k ih =>
    intro t m ht ht' hm
    obtain ⟨m, rfl⟩ : ∃ q, m = q + 1 := ⟨m - 1, by omega⟩
    have hw : IntKind.i64.wrap ((t : Int) + 1) = (t : Int) + 1 := wrap_i64 (by omega) (by omega)
    have ha := app_apd (σ := σ) (sz := 2) (own := 1) (es := es) (r := runRow (i, t)) (by omega)
    simp only [runRow] at ha
    have hb := bit_eq c hc (t + 1)
    have hneg : ¬ ((t : Int) + 1 < 0) := by omega
    by_cases h64 : (t : Int) + 1 < 64
    · have hmin : min (t + 1) 64 = t + 1 := by omega
      have h64' : t + 1 < 64 := by omega
      cases hbit : c.testBit (t + 1) with
      | true =>
        rw [hbit] at hb
        simp only [if_true] at hb
        rw [iterJ_next' (vs' := [.agg [.int .i64 i, .int .i64 ((t + 1 : Nat) : Int)]]) (σ' := (apd σ 2 es).2), ih (t + 1) m (by omega) (by omega) (by omega)]
        · simp [endR, h64', hbit]
        · simp -implicitDefEqProofs [L106_0, B106_0, hw, h64, hneg, hmin, IntKind.bits, hb, -Int.natCast_pow]
      | false =>
        rw [hbit] at hb
        refine iterJ_out ?_ (by decide)
        have e : endR c (k + 1) t = t := by simp [endR, hbit]
        rw [e]
        simp -implicitDefEqProofs [L106_0, B106_0, hw, h64, hneg, hmin, IntKind.bits, hb, ha, runRow, -Int.natCast_pow]
    · refine iterJ_out ?_ (by decide)
      have e : endR c (k + 1) t = t := by
        have : ¬ (t + 1 < 64) := by omega
        simp [endR, this]
      rw [e]
      simp -implicitDefEqProofs [L106_0, B106_0, hw, h64, ha, runRow]
theorem l106_1 {n : Nat} (hn : 100 ≤ n) (c : Nat) (hc : c < 18446744073709551616) (σ : Sto) : ∀ (k i m : Nat) (es : List (List DVal)), 64 ≤ i + k → i ≤ 64 → k < m → es.length ≤ i →
    iterJ 0 (L106_1 (cpJ PR n) (ciJ PR n) n (.int .u64 c)) m [.int .i64 i, (apd σ 2 es).1] (apd σ 2 es).2 =
      some (.done (apd σ 2 (es ++ (runsR c k i).map runRow)).1 (apd σ 2 (es ++ (runsR c k i).map runRow)).2) := by
  intro k
  induction k with
  | zero =>
    intro i m es hi hi' hm hes
    obtain ⟨m, rfl⟩ : ∃ q, m = q + 1 := ⟨m - 1, by omega⟩
    obtain rfl : i = 64 := by omega
    refine iterJ_done ?_
    simp -implicitDefEqProofs [L106_1, B106_1, runsR]
  | succ k ih =>
    intro i m es hi hi' hm hes
    obtain ⟨m, rfl⟩ : ∃ q, m = q + 1 := ⟨m - 1, by omega⟩
    by_cases h64 : (i : Int) < 64
    · have hlt : i < 64 := by omega
      have hb := bit_eq c hc i
      have hneg : ¬ ((i : Int) < 0) := by omega
      have hmin : min i 64 = i := by omega
      have hw : IntKind.i64.wrap ((i : Int) + 1) = (i : Int) + 1 := wrap_i64 (by omega) (by omega)
      have hl := l106_0 (n := n) c hc σ es (by omega) i 64 i n (by omega) (by omega) (by omega)
      unfold runsR
      cases hbit : c.testBit i with
      | true =>
        rw [hbit] at hb
        simp only [if_true] at hb
        have he := endR_le (c := c) (k := 64) (t := i) (by omega)
        rw [iterJ_next' (vs' := [.int .i64 ((endR c 64 i + 1 : Nat) : Int), (apd σ 2 (es ++ [runRow (i, endR c 64 i)])).1]) (σ' := (apd σ 2 (es ++ [runRow (i, endR c 64 i)])).2), ih (endR c 64 i + 1) m _ (by omega) (by omega) (by omega) (by simp; omega)]
        · simp [hlt]
        · rw [← hl]
          simp -implicitDefEqProofs [L106_1, B106_1, hw, h64, hneg, hmin, IntKind.bits, hb, -Int.natCast_pow]
      | false =>
        rw [hbit] at hb
        rw [iterJ_next' (vs' := [.int .i64 ((i + 1 : Nat) : Int), (apd σ 2 es).1]) (σ' := (apd σ 2 es).2), ih (i + 1) m es (by omega) (by omega) (by omega) (by omega)]
        · simp [hlt]
        · simp -implicitDefEqProofs [L106_1, B106_1, hw, h64, hneg, hmin, IntKind.bits, hb, -Int.natCast_pow]
    · have hlt : ¬ i < 64 := by omega
      refine iterJ_done ?_
      simp -implicitDefEqProofs [L106_1, B106_1, h64, runsR, hlt]
def runs (c : Nat) : List (Nat × Nat) := runsR c 64 0
theorem e106 {n : Nat} (hn : 110 ≤ n) (c : Nat) (hc : c < 18446744073709551616) : cpJ PR n 106 [.int .u64 c] = some (frD 2 ((runs c).map runRow)) := by
  obtain ⟨n, rfl⟩ : ∃ m, n = m + 1 := ⟨n - 1, by omega⟩
  have := l106_1 (n := n) (by omega) c hc emptySto 64 0 n [] (by omega) (by omega) (by omega) (by simp)
  rw [u106]
  simp only [Int.natCast_zero, List.nil_append] at this
  have e : apd emptySto 2 [] = (.nils, emptySto) := rfl
  rw [e] at this
  simp -implicitDefEqProofs [D106, this, runs]
end Go.Proofs.YthpccimmmfonjaaGreatDoor
namespace Go.Proofs.YthpccimmmfonjaaGreatDoor
set_option linter.unusedVariables false
set_option linter.unusedSimpArgs false
set_option maxRecDepth 20000
set_option maxHeartbeats 2000000
open Go
def nm (l : List (List UInt8)) (i : Nat) : List UInt8 := l.getD i []
theorem get_nm {l : List (List UInt8)} {i : Nat} (h : i < l.length) : l[i]? = some (nm l i) := by
  unfold nm
  rw [List.getD_eq_getElem?_getD, List.getElem?_eq_getElem h]; rfl
theorem nm_mem {l : List (List UInt8)} {i : Nat} (h : i < l.length) : nm l i ∈ l := List.mem_of_getElem? (get_nm h)
def spanRow (cats : List (List UInt8)) (p : Nat × Nat) : List DVal := [.str (nm cats p.1), .str (if p.1 < p.2 then nm cats p.2 else [])]
abbrev ltD (name : List UInt8) (rows : List (List DVal)) : DVal := .agg [.str name, slD .nil 2 rows]
theorem hasC_succ (c : Nat) (t : Nat) : hasC c ((t : Int) + 1) = true ↔ t + 1 < 64 ∧ c.testBit (t + 1) = true := by
  unfold hasC
  simp only [Bool.and_eq_true, decide_eq_true_eq]
  constructor
  · rintro ⟨⟨-, h2⟩, h3⟩
    exact ⟨by omega, by simpa using h3⟩
  · rintro ⟨h1, h2⟩
    exact ⟨⟨by omega, by omega⟩, by simpa using h2⟩
theorem l128_0 {n : Nat} (hn : 2 ≤ n) (z : Zs) (cats : List (List UInt8)) (s : Int) (c : Nat) (hc : c < 18446744073709551616) (hv : ∀ j, c.testBit j = true → j < cats.length) (σ : Sto) (es : List (List DVal)) (hes : es.length ≤ 1000) (i : Nat) :
    ∀ (k t m : Nat), 63 ≤ t + k → i ≤ t → t ≤ 63 → k < m →
    iterJ 1 (L128_0 (cpJ PR n) (ciJ PR n) n (strsD z cats) (lv s c) (apd σ 2 es).1) m [.int .i64 t, .agg [.str (nm cats i), .str (if i < t then nm cats t else [])]] (apd σ 2 es).2 =
      some (.next 0 [.int .i64 ((endR c k t + 1 : Nat) : Int), (apd σ 2 (es ++ [spanRow cats (i, endR c k t)])).1] (apd σ 2 (es ++ [spanRow cats (i, endR c k t)])).2) := by
  intro k
  have stop : ∀ t m, i ≤ t → t ≤ 63 → ¬ (t + 1 < 64 ∧ c.testBit (t + 1) = true) → 0 < m →
      iterJ 1 (L128_0 (cpJ PR n) (ciJ PR n) n (strsD z cats) (lv s c) (apd σ 2 es).1) m [.int .i64 t, .agg [.str (nm cats i), .str (if i < t then nm cats t else [])]] (apd σ 2 es).2 =
      some (.next 0 [.int .i64 ((t + 1 : Nat) : Int), (apd σ 2 (es ++ [spanRow cats (i, t)])).1] (apd σ 2 (es ++ [spanRow cats (i, t)])).2) := by
    intro t m hit ht hno hm
    obtain ⟨m, rfl⟩ : ∃ q, m = q + 1 := ⟨m - 1, by omega⟩
    have hw : IntKind.i64.wrap ((t : Int) + 1) = (t : Int) + 1 := wrap_i64 (by omega) (by omega)
    have he := e127 (n := n) (by omega) s c hc ((t : Int) + 1)
    have hh : hasC c ((t : Int) + 1) = false := by
      cases h : hasC c ((t : Int) + 1) with
      | false => rfl
      | true => exact absurd ((hasC_succ c t).1 h) hno
    rw [hh] at he
    have ha := app_apd (σ := σ) (sz := 2) (own := 1) (es := es) (r := spanRow cats (i, t)) (by omega)
    refine iterJ_out ?_ (by decide)
    simp only [spanRow] at ha ⊢
    generalize (if i < t then nm cats t else []) = q at ha ⊢
    simp -implicitDefEqProofs [L128_0, B128_0, hw, he, ha]
  induction k with
  | zero =>
    intro t m ht hit ht' hm
    exact stop t m hit ht' (by omega) hm
  | succ k ih =>
    intro t m ht hit ht' hm
    by_cases hgo : t + 1 < 64 ∧ c.testBit (t + 1) = true
    · obtain ⟨m, rfl⟩ : ∃ q, m = q + 1 := ⟨m - 1, by omega⟩
      have hw : IntKind.i64.wrap ((t : Int) + 1) = (t : Int) + 1 := wrap_i64 (by omega) (by omega)
      have he := e127 (n := n) (by omega) s c hc ((t : Int) + 1)
      rw [(hasC_succ c t).2 hgo] at he
      have g1 := get_nm (hv _ hgo.2)
      rw [iterJ_next' (vs' := [.int .i64 ((t + 1 : Nat) : Int), .agg [.str (nm cats i), .str (if i < t + 1 then nm cats (t + 1) else [])]]) (σ' := (apd σ 2 es).2), ih (t + 1) m (by omega) (by omega) (by omega) (by omega)]
      · simp [endR, hgo]
      · have : i < t + 1 := by omega
        rw [if_pos this]
        generalize (if i < t then nm cats t else []) = q
        have hneg : (0 : Int) ≤ (t : Int) + 1 := by omega
        simp -implicitDefEqProofs [L128_0, B128_0, hw, he, g1, hneg]
    · have e : endR c (k + 1) t = t := by unfold endR; rw [if_neg hgo]
      rw [e]
      exact stop t m hit ht' hgo (by omega)
theorem l128_1 {n : Nat} (hn : 100 ≤ n) (z : Zs) (cats : List (List UInt8)) (hcl : cats.length ≤ 64) (s : Int) (c : Nat) (hc : c < 18446744073709551616) (hv : ∀ j, c.testBit j = true → j < cats.length) (σ : Sto) :
    ∀ (k i m : Nat) (es : List (List DVal)), 64 ≤ i + k → i ≤ 64 → k < m → es.length ≤ i →
    iterJ 0 (L128_1 (cpJ PR n) (ciJ PR n) n (strsD z cats) (lv s c)) m [.int .i64 i, (apd σ 2 es).1] (apd σ 2 es).2 =
      some (.done (apd σ 2 (es ++ (runsR c k i).map (spanRow cats))).1 (apd σ 2 (es ++ (runsR c k i).map (spanRow cats))).2) := by
  intro k
  have stop : ∀ k i m (es : List (List DVal)), cats.length ≤ i → 0 < m →
      iterJ 0 (L128_1 (cpJ PR n) (ciJ PR n) n (strsD z cats) (lv s c)) m [.int .i64 i, (apd σ 2 es).1] (apd σ 2 es).2 =
      some (.done (apd σ 2 (es ++ (runsR c k i).map (spanRow cats))).1 (apd σ 2 (es ++ (runsR c k i).map (spanRow cats))).2) := by
    intro k i m es hi hm
    obtain ⟨m, rfl⟩ : ∃ q, m = q + 1 := ⟨m - 1, by omega⟩
    have hno : runsR c k i = [] := runsR_none fun j hj => by
      cases h : c.testBit j with
      | false => rfl
      | true => have := hv j h; omega
    have hi' : ¬ ((i : Int) < cats.length) := by omega
    refine iterJ_done ?_
    simp -implicitDefEqProofs [L128_1, B128_1, hno, hi']
  induction k with
  | zero =>
    intro i m es hi hi' hm hes
    exact stop 0 i m es (by omega) (by omega)
  | succ k ih =>
    intro i m es hi hi' hm hes
    by_cases hlen : i < cats.length
    · obtain ⟨m, rfl⟩ : ∃ q, m = q + 1 := ⟨m - 1, by omega⟩
      have hlt : i < 64 := by omega
      have hlen' : ((i : Int) < cats.length) := by omega
      have hw : IntKind.i64.wrap ((i : Int) + 1) = (i : Int) + 1 := wrap_i64 (by omega) (by omega)
      have he := e127 (n := n) (by omega) s c hc i
      rw [hasC_lt c i hlt] at he
      have hl := l128_0 (n := n) (by omega) z cats s c hc hv σ es (by omega) i 64 i n (by omega) (by omega) (by omega) (by omega)
      rw [if_neg (by omega)] at hl
      have g1 := get_nm hlen
      unfold runsR
      cases hbit : c.testBit i with
      | true =>
        rw [hbit] at he
        have hle := endR_le (c := c) (k := 64) (t := i) (by omega)
        rw [iterJ_next' (vs' := [.int .i64 ((endR c 64 i + 1 : Nat) : Int), (apd σ 2 (es ++ [spanRow cats (i, endR c 64 i)])).1]) (σ' := (apd σ 2 (es ++ [spanRow cats (i, endR c 64 i)])).2), ih (endR c 64 i + 1) m _ (by omega) (by omega) (by omega) (by simp; omega)]
        · simp [hlt]
        · rw [← hl]
          simp -implicitDefEqProofs [L128_1, B128_1, hlen', he, g1]
      | false =>
        rw [hbit] at he
        rw [iterJ_next' (vs' := [.int .i64 ((i + 1 : Nat) : Int), (apd σ 2 es).1]) (σ' := (apd σ 2 es).2), ih (i + 1) m es (by omega) (by omega) (by omega) (by omega)]
        · simp [hlt]
        · simp -implicitDefEqProofs [L128_1, B128_1, hlen', he, hw]
    · exact stop (k + 1) i m es (by omega) (by omega)
theorem e128 {n : Nat} (hn : 110 ≤ n) (z : Zs) (cats : List (List UInt8)) (hcl : cats.length ≤ 64) (s : Int) (c : Nat) (hc : c < 18446744073709551616) (hv : ∀ j, c.testBit j = true → j < cats.length) :
    cpJ PR n 128 [lv s c, strsD z cats] = some (frD 2 ((runs c).map (spanRow cats))) := by
  obtain ⟨n, rfl⟩ : ∃ m, n = m + 1 := ⟨n - 1, by omega⟩
  have := l128_1 (n := n) (by omega) z cats hcl s c hc hv emptySto 64 0 n [] (by omega) (by omega) (by omega) (by simp)
  rw [u128]
  simp only [Int.natCast_zero, List.nil_append] at this
  have e : apd emptySto 2 [] = (.nils, emptySto) := rfl
  rw [e] at this
  simp -implicitDefEqProofs [D128, this, runs]
end Go.Proofs.YthpccimmmfonjaaGreatDoor
namespace Go.Proofs.YthpccimmmfonjaaGreatDoor
set_option linter.unusedVariables false
set_option linter.unusedSimpArgs false
set_option maxRecDepth 20000
set_option maxHeartbeats 2000000
open Go
theorem check_facts {s : Int} {c : Nat} (hc : c < 18446744073709551616) {a b : Nat} (h : checkV s c a b = true) : (0 ≤ s ∧ s < a) ∧ ∀ j, c.testBit j = true → j < b := by
  rw [← check_eq hc, decide_eq_true_eq] at h
  refine ⟨⟨h.2.1, h.2.2⟩, fun j hj => ?_⟩
  by_cases h64 : j < 64
  · have := h.1 j (Nat.zero_le _) h64 hj; omega
  · have : c.testBit j = false := Nat.testBit_lt_two_pow (Nat.lt_of_lt_of_le hc (Nat.pow_le_pow_right (n := 2) (by decide) (by omega : 64 ≤ j)))
    rw [this] at hj; cases hj
structure Few (x y : List (List UInt8)) : Prop where
  a : x.length ≤ 100
  b : y.length ≤ 100
  as : ∀ s ∈ x, s.length ≤ 100
  bs : ∀ s ∈ y, s.length ≤ 100
def propV (sens cats : List (List UInt8)) : Bool := properB 16 sens && properB 64 cats
def rangeV (s : Int) (c : Nat) (s' : Int) (c' : Nat) (a b : Nat) : Bool := checkV s c a b && checkV s' c' a b && domV s' c' s c
theorem propV_facts {sens cats : List (List UInt8)} (h : propV sens cats = true) : sens.length ≤ 16 ∧ cats.length ≤ 64 := by
  simp only [propV, properB, Bool.and_eq_true, decide_eq_true_eq] at h
  omega
section
variable {n : Nat} (z z' : Zs) {sens cats : List (List UInt8)} (hf : Few sens cats)
include hf
theorem p46 (hn : 20010 ≤ n) : cpJ PR n 53 [strsD z sens, strsD z' cats] = some (.bool (propV sens cats)) :=
  e53 z z' sens cats (by have := hf.a; omega) (fun s hs => by have := hf.as s hs; omega) (by have := hf.b; omega) (fun s hs => by have := hf.bs s hs; omega) (by omega)
theorem p49 (hn : 20010 ≤ n) : cpJ PR n 97 [strsD z sens, strsD z' cats] = some (.bool (propV sens cats)) :=
  e97 z z' sens cats (by have := hf.a; omega) (fun s hs => by have := hf.as s hs; omega) (by have := hf.b; omega) (fun s hs => by have := hf.bs s hs; omega) (by omega)
def errV (P V : Bool) : Int := if P then (if V then 0 else 18) else 2
theorem e57 (hn : 20020 ≤ n) (s : Int) (c : Nat) (s' : Int) (c' : Nat) (hr : Rok c c') : cpJ PR n 57 [rg s c s' c', strsD z sens, strsD z' cats] = some (.int .i64 (errV (propV sens cats) (rangeV s c s' c' sens.length cats.length))) := by
  obtain ⟨n, rfl⟩ : ∃ m, n = m + 1 := ⟨n - 1, by omega⟩
  have h1 := p46 (n := n) z z' hf (by omega)
  have h2 := e28 (n := n) (by omega) s c hr.lo s' c' hr.hi sens.length cats.length
  change _ = some (DVal.bool (rangeV s c s' c' sens.length cats.length)) at h2
  rw [u57]
  cases hP : propV sens cats <;> cases hV : rangeV s c s' c' sens.length cats.length <;> rw [hP] at h1 <;> rw [hV] at h2 <;> simp -implicitDefEqProofs [D57, h1, h2, errV]
end
abbrev rtD (n1 : List UInt8) (r1 : List (List DVal)) (n2 : List UInt8) (r2 : List (List DVal)) : DVal := .agg [.str n1, slD .nil 2 r1, .str n2, slD .nil 2 r2]
theorem slD_nil : slD .nil 2 [] = .nils := rfl
def rowsV (cats : List (List UInt8)) (c : Nat) : List (List DVal) := (runs c).map (spanRow cats)
def srcV (sens cats : List (List UInt8)) (s : Int) (c : Nat) (s' : Int) (c' : Nat) : DVal :=
  if errV (propV sens cats) (rangeV s c s' c' sens.length cats.length) = 0 then
    (if s = s' ∧ c = c' then rtD (nm sens s.toNat) (rowsV cats c) [] [] else rtD (nm sens s.toNat) (rowsV cats c) (nm sens s'.toNat) (rowsV cats c'))
  else rtD [] [] [] []
theorem range_facts {s : Int} {c : Nat} {s' : Int} {c' : Nat} (hr : Rok c c') {a b : Nat} (h : rangeV s c s' c' a b = true) :
    (∃ i i' : Nat, s = i ∧ s' = i' ∧ i < a ∧ i' < a) ∧ (∀ j, c.testBit j = true → j < b) ∧ ∀ j, c'.testBit j = true → j < b := by
  simp only [rangeV, Bool.and_eq_true] at h
  obtain ⟨h1, h2⟩ := check_facts hr.lo h.1.1
  obtain ⟨h3, h4⟩ := check_facts hr.hi h.1.2
  exact ⟨⟨s.toNat, s'.toNat, by omega, by omega, by omega, by omega⟩, h2, h4⟩
theorem lv_ne {s : Int} {c : Nat} {s' : Int} {c' : Nat} (e : ¬ (s = s' ∧ c = c')) : ((s == s') && ((c : Int) == (c' : Int))) = false := by
  cases h : ((s == s') && ((c : Int) == (c' : Int))) with
  | false => rfl
  | true => simp only [Bool.and_eq_true, beq_iff_eq] at h; exact absurd ⟨h.1, by omega⟩ e
theorem e85 {n : Nat} (hn : 20030 ≤ n) (z z' : Zs) {sens cats : List (List UInt8)} (hf : Few sens cats) (s : Int) (c : Nat) (s' : Int) (c' : Nat) (hr : Rok c c') : cpJ PR n 85 [rg s c s' c', strsD z sens, strsD z' cats] =
    some (.tup [srcV sens cats s c s' c', .int .i64 (errV (propV sens cats) (rangeV s c s' c' sens.length cats.length))]) := by
  obtain ⟨n, rfl⟩ : ∃ m, n = m + 1 := ⟨n - 1, by omega⟩
  have h1 := p49 (n := n) z z' hf (by omega)
  have h2 := e42 (n := n) (by omega) s c hr.lo s' c' hr.hi sens.length cats.length
  change _ = some (DVal.bool (rangeV s c s' c' sens.length cats.length)) at h2
  rw [u85]
  unfold srcV
  cases hP : propV sens cats with
  | false =>
    rw [hP] at h1
    simp -implicitDefEqProofs [D85, h1, errV, slD_nil]
  | true =>
    rw [hP] at h1
    cases hV : rangeV s c s' c' sens.length cats.length with
    | false =>
      rw [hV] at h2
      simp -implicitDefEqProofs [D85, h1, h2, errV, slD_nil]
    | true =>
      rw [hV] at h2
      obtain ⟨⟨i, i', rfl, rfl, hi, hi'⟩, hb, hb'⟩ := range_facts hr hV
      have hcl := (propV_facts hP).2
      have w1 := e128 (n := n) (by omega) z' cats hcl i c hr.lo hb
      have w2 := e128 (n := n) (by omega) z' cats hcl i' c' hr.hi hb'
      by_cases e : (i : Int) = i' ∧ c = c'
      · obtain ⟨e9001, rfl⟩ := e
        obtain rfl : i = i' := by omega
        simp -implicitDefEqProofs [D85, h1, h2, w1, rowsV, slD_nil, errV, get_nm hi]
      · have e9002 := lv_ne e
        have e9003 := lv_ne (s := i') (c := c') (s' := i) (c' := c) (fun h => e ⟨h.1.symm, h.2.symm⟩)
        rw [if_pos (by rfl), if_neg e]
        simp -implicitDefEqProofs [D85, h1, h2, w1, w2, rowsV, e9003, errV, get_nm hi, get_nm hi']
end Go.Proofs.YthpccimmmfonjaaGreatDoor
namespace Go.Proofs.YthpccimmmfonjaaGreatDoor
set_option linter.unusedVariables false
set_option linter.unusedSimpArgs false
set_option maxRecDepth 20000
set_option maxHeartbeats 4000000
open Go
theorem e38 {n : Nat} (hn : 1 ≤ n) (i m : Int) : cpJ PR n 38 [.int .i64 i, .int .i64 m] = some (.bool (belowV i m)) := by
  obtain ⟨n, rfl⟩ : ∃ m, n = m + 1 := ⟨n - 1, by omega⟩
  rw [u38]
  simp -implicitDefEqProofs +contextual [D38, belowV]
theorem e41 {n : Nat} (hn : 1 ≤ n) (i m : Int) : cpJ PR n 41 [.int .i64 i, .int .i64 m] = some (.bool (belowV i m)) := by
  obtain ⟨n, rfl⟩ : ∃ m, n = m + 1 := ⟨n - 1, by omega⟩
  rw [u41]
  simp -implicitDefEqProofs +contextual [D41, belowV]
theorem e15 {n : Nat} (hn : 1 ≤ n) (c : CtxV) : cpJ PR n 15 [c.d] = some (.bool (c.role == 0)) := by
  obtain ⟨n, rfl⟩ : ∃ m, n = m + 1 := ⟨n - 1, by omega⟩
  rw [u15]
  simp -implicitDefEqProofs [D15]
theorem e16 {n : Nat} (hn : 1 ≤ n) (c : CtxV) : cpJ PR n 16 [c.d] = some (.bool (c.role == 0)) := by
  obtain ⟨n, rfl⟩ : ∃ m, n = m + 1 := ⟨n - 1, by omega⟩
  rw [u16]
  simp -implicitDefEqProofs [D16]
def at' {α : Type} (l : List α) (i : Int) : Option α := if 0 ≤ i then l[i.toNat]? else none
theorem at_some {α : Type} {l : List α} {i : Int} (h : belowV i l.length = true) : ∃ (j : Nat) (x : α), i = j ∧ j < l.length ∧ l[j]? = some x ∧ at' l i = some x := by
  simp only [belowV, Bool.and_eq_true, decide_eq_true_eq] at h
  obtain ⟨j, rfl⟩ : ∃ j : Nat, i = j := ⟨i.toNat, by omega⟩
  obtain ⟨x, hx⟩ := get_some (l := l) (i := j) (by omega)
  exact ⟨j, x, rfl, by omega, hx, by simp [at', hx]⟩
theorem at_none {α : Type} {l : List α} {i : Int} (h : belowV i l.length = false) : at' l i = none := by
  unfold at'
  split
  · rename_i h0
    have : ¬ i < l.length := fun h1 => by simp [belowV, h0, h1] at h
    exact List.getElem?_eq_none (by omega)
  · rfl
def rngV (p : PolV) (lo hi : LvV) : Bool := rangeV lo.s lo.c hi.s hi.c p.sens.l.length p.cats.l.length
def insV (u : UserV) (c : CtxV) : Bool := conV u.lo.s u.lo.c u.hi.s u.hi.c c.lo.s c.lo.c c.hi.s c.hi.c
def checkC (p : PolV) (c : CtxV) : Int :=
  match at' p.users.l c.user, at' p.roles.l c.role, at' p.types.l c.type with
  | some u, some r, some _ => if rngV p c.lo c.hi then (if c.role = 0 then 0 else if hasS u.roles c.role && (hasS r.types c.type && insV u c) then 0 else 19) else 18
  | _, _, _ => 3
theorem e13 {n : Nat} (hn : 100 ≤ n) (p : PolV) (c : CtxV) : cpJ PR n 13 [p.d, c.d] = some (.int .i64 (checkC p c)) := by
  obtain ⟨n, rfl⟩ : ∃ m, n = m + 1 := ⟨n - 1, by omega⟩
  have h1 := e38 (n := n) (by omega) c.user p.users.l.length
  have h2 := e38 (n := n) (by omega) c.role p.roles.l.length
  have h3 := e38 (n := n) (by omega) c.type p.types.l.length
  have h4 : cpJ PR n 28 [rngD c.lo c.hi, .int .i64 p.sens.l.length, .int .i64 p.cats.l.length] = some (.bool (rngV p c.lo c.hi)) := e28 (n := n) (by omega) c.lo.s c.lo.c c.lo.lt c.hi.s c.hi.c c.hi.lt p.sens.l.length p.cats.l.length
  have h5 := e15 (n := n) (by omega) c
  rw [u13]
  unfold checkC
  cases q1 : belowV c.user p.users.l.length with
  | false =>
    rw [q1] at h1
    rw [at_none q1]
    simp -implicitDefEqProofs [D13, h1]
  | true =>
  obtain ⟨j1, x, e1, -, hx, ha⟩ := at_some q1
  rw [q1] at h1
  cases q2 : belowV c.role p.roles.l.length with
  | false =>
    rw [q2] at h2
    rw [at_none q2, ha]
    simp -implicitDefEqProofs [D13, h1, h2]
  | true =>
  obtain ⟨j2, y, e2, -, hy, hb⟩ := at_some q2
  rw [q2] at h2
  cases q3 : belowV c.type p.types.l.length with
  | false =>
    rw [q3] at h3
    rw [at_none q3, ha, hb]
    simp -implicitDefEqProofs [D13, h1, h2, h3]
  | true =>
  obtain ⟨j3, z, e3, -, hz, hc⟩ := at_some q3
  rw [q3] at h3
  have h6 : cpJ PR n 39 [x.roles.d, .int .i64 (j2 : Int)] = some (.bool (hasS x.roles c.role)) := by rw [← e2]; exact e39 (n := n) (by omega) x.roles c.role
  have h7 := e39 (n := n) (by omega) y.types c.type
  have h8 : cpJ PR n 40 [rngD x.lo x.hi, rngD c.lo c.hi] = some (.bool (insV x c)) := e40 (n := n) (by omega) x.lo.s x.lo.c x.hi.s x.hi.c ⟨x.lo.lt, x.hi.lt⟩ c.lo.s c.lo.c c.hi.s c.hi.c ⟨c.lo.lt, c.hi.lt⟩
  rw [ha, hb, hc]
  simp only
  rw [e1] at h1
  rw [e2] at h2
  cases q4 : rngV p c.lo c.hi <;> rw [q4] at h4
  · simp -implicitDefEqProofs [D13, h1, h2, h3, h4, e1, e2]
  · cases q5 : (c.role == 0) <;> rw [q5] at h5
    · have q5' : ¬ c.role = 0 := by simpa using q5
      have q6 : ¬ j2 = 0 := fun h => q5' (by rw [e2, h]; rfl)
      cases q7 : hasS x.roles c.role <;> rw [q7] at h6 <;> cases q8 : hasS y.types c.type <;> rw [q8] at h7 <;> cases q9 : insV x c <;> rw [q9] at h8 <;>
        simp -implicitDefEqProofs [D13, h1, h2, h3, h4, h5, h6, h7, h8, e1, e2, hx, hy, q6]
    · have q5' : c.role = 0 := by simpa using q5
      have q6 : (j2 : Int) = 0 := by rw [← e2, q5']
      rw [if_pos q5']
      simp -implicitDefEqProofs [D13, h1, h2, h3, h4, h5, e1, e2]
theorem e14 {n : Nat} (hn : 100 ≤ n) (p : PolV) (c : CtxV) : cpJ PR n 14 [p.d, c.d] = some (.int .i64 (checkC p c)) := by
  obtain ⟨n, rfl⟩ : ∃ m, n = m + 1 := ⟨n - 1, by omega⟩
  have h1 := e41 (n := n) (by omega) c.user p.users.l.length
  have h2 := e41 (n := n) (by omega) c.role p.roles.l.length
  have h3 := e41 (n := n) (by omega) c.type p.types.l.length
  have h4 : cpJ PR n 42 [rngD c.lo c.hi, .int .i64 p.sens.l.length, .int .i64 p.cats.l.length] = some (.bool (rngV p c.lo c.hi)) := e42 (n := n) (by omega) c.lo.s c.lo.c c.lo.lt c.hi.s c.hi.c c.hi.lt p.sens.l.length p.cats.l.length
  rw [u14]
  unfold checkC
  cases q1 : belowV c.user p.users.l.length with
  | false =>
    rw [q1] at h1
    rw [at_none q1]
    simp -implicitDefEqProofs [D14, h1]
  | true =>
  obtain ⟨j1, x, e1, -, hx, ha⟩ := at_some q1
  rw [q1] at h1
  cases q2 : belowV c.role p.roles.l.length with
  | false =>
    rw [q2] at h2
    rw [at_none q2, ha]
    simp -implicitDefEqProofs [D14, h1, h2]
  | true =>
  obtain ⟨j2, y, e2, -, hy, hb⟩ := at_some q2
  rw [q2] at h2
  cases q3 : belowV c.type p.types.l.length with
  | false =>
    rw [q3] at h3
    rw [at_none q3, ha, hb]
    simp -implicitDefEqProofs [D14, h1, h2, h3]
  | true =>
  obtain ⟨j3, z, e3, -, hz, hc⟩ := at_some q3
  rw [q3] at h3
  have h6 : cpJ PR n 43 [x.roles.d, .int .i64 (j2 : Int)] = some (.bool (hasS x.roles c.role)) := by rw [← e2]; exact e43 (n := n) (by omega) x.roles c.role
  have h7 := e43 (n := n) (by omega) y.types c.type
  have h8 : cpJ PR n 44 [rngD x.lo x.hi, rngD c.lo c.hi] = some (.bool (insV x c)) := e44 (n := n) (by omega) x.lo.s x.lo.c x.hi.s x.hi.c ⟨x.lo.lt, x.hi.lt⟩ c.lo.s c.lo.c c.hi.s c.hi.c ⟨c.lo.lt, c.hi.lt⟩
  rw [ha, hb, hc]
  simp only
  rw [e1] at h1
  rw [e2] at h2
  cases q4 : rngV p c.lo c.hi <;> rw [q4] at h4
  · simp -implicitDefEqProofs [D14, h1, h2, h3, h4, e1, e2]
  · cases q5 : (c.role == 0)
    · have q5' : ¬ c.role = 0 := by simpa using q5
      have q6 : ¬ j2 = 0 := fun h => q5' (by rw [e2, h]; rfl)
      cases q7 : hasS x.roles c.role <;> rw [q7] at h6 <;> cases q8 : hasS y.types c.type <;> rw [q8] at h7 <;> cases q9 : insV x c <;> rw [q9] at h8 <;>
        simp -implicitDefEqProofs [D14, h1, h2, h3, h4, h6, h7, h8, e1, e2, hx, hy, q6]
    · have q5' : c.role = 0 := by simpa using q5
      have q6 : (j2 : Int) = 0 := by rw [← e2, q5']
      have q7 : j2 = 0 := by omega
      rw [if_pos q5']
      simp -implicitDefEqProofs [D14, h1, h2, h3, h4, e1, e2, iteQ_pos q7]
theorem ctx_beq (a b : CtxV) : ∃ q, eqaSem false [.i .i64, .i .i64, .i .i64, .i .i64, .i .u64, .i .i64, .i .u64] [a.d, b.d] = some (.bool q) ∧ (q = true ↔ a.row = b.row) := by
  have : Ans (eqaSem false [.i .i64, .i .i64, .i .i64, .i .i64, .i .u64, .i .i64, .i .u64] [a.d, b.d]) (isB fun q => q = true ↔ a.row = b.row) := by
    unfold CtxV.d CtxV.row LvV.row
    simp -implicitDefEqProofs
  exact this.bool
theorem e17 {n : Nat} (hn : 1 ≤ n) (a b : CtxV) {q : Bool} (h : eqaSem false [.i .i64, .i .i64, .i .i64, .i .i64, .i .u64, .i .i64, .i .u64] [a.d, b.d] = some (.bool q)) : cpJ PR n 17 [a.d, b.d] = some (.bool q) := by
  obtain ⟨n, rfl⟩ : ∃ m, n = m + 1 := ⟨n - 1, by omega⟩
  rw [u17]
  simp -implicitDefEqProofs [D17, h, -eqaSem.eq_1]
theorem e3 {n d : Nat} (hn : maxLen + 2000 + d ≤ n) (aw : cpJ PR n 12 [] = some (.bool true)) {p : PolV} (hf : PFit d p) (a b : CtxV) :
    cpJ PR (n + 1) 3 [p.d, a.d, b.d] = some (.bool true) := by
  obtain ⟨q, h1, -⟩ := e11 hn hf
  have h2 := e13 (n := n) (by omega) p a
  have h3 := e14 (n := n) (by omega) p a
  have h4 := e15 (n := n) (by omega) a
  have h5 := e16 (n := n) (by omega) a
  obtain ⟨r, h6, -⟩ := ctx_beq a b
  have h7 := e17 (n := n) (by omega) a b h6
  obtain ⟨t, h8, h8'⟩ := ctx_beq a a
  obtain rfl : t = true := h8'.2 rfl
  have h9 := e17 (n := n) (by omega) a a h8
  rw [u3]
  cases q <;> simp -implicitDefEqProofs [D3, h1, h2, h3, h4, h5, h6, h7, h9, aw, -eqaSem.eq_1]
end Go.Proofs.YthpccimmmfonjaaGreatDoor
namespace Go.Proofs.YthpccimmmfonjaaGreatDoor
set_option linter.unusedVariables false
set_option linter.unusedSimpArgs false
set_option maxRecDepth 20000
set_option maxHeartbeats 2000000
open Go
theorem distB_facts : ∀ {l pre : List (List UInt8)}, distB pre l = true → (∀ s ∈ l, okName s = true ∧ s ∉ pre) ∧ l.Nodup
  | [], pre, _ => ⟨fun s hs => by simp at hs, List.nodup_nil⟩
  | x :: l, pre, h => by
    simp only [distB, Bool.and_eq_true, Bool.not_eq_true', decide_eq_false_iff_not] at h
    obtain ⟨⟨h1, h2⟩, h3⟩ := h
    obtain ⟨a1, a2⟩ := distB_facts h3
    refine ⟨fun s hs => ?_, ?_⟩
    · rcases List.mem_cons.1 hs with rfl | hs
      · exact ⟨h1, h2⟩
      · exact ⟨(a1 s hs).1, fun hp => (a1 s hs).2 (by simp [hp])⟩
    · rw [List.nodup_cons]
      exact ⟨fun hx => (a1 x hx).2 (by simp), a2⟩
theorem properB_name {most : Int} {l : List (List UInt8)} (h : properB most l = true) : (∀ s ∈ l, s ≠ [] ∧ s.length ≤ 32 ∧ s.all isL = true) ∧ l.Nodup := by
  simp only [properB, Bool.and_eq_true] at h
  obtain ⟨a1, a2⟩ := distB_facts h.2
  refine ⟨fun s hs => ?_, a2⟩
  have := (a1 s hs).1
  simp only [okName, wordV, Bool.and_eq_true, decide_eq_true_eq, Bool.not_eq_true', List.isEmpty_eq_false_iff] at this
  exact ⟨this.2.2, this.1, this.2.1⟩
def partT (cats : List (List UInt8)) (p : Nat × Nat) : List UInt8 := if p.1 < p.2 then nm cats p.1 ++ 46 :: nm cats p.2 else nm cats p.1
def tailT (ps : List (List UInt8)) : List UInt8 := ps.flatMap fun y => 44 :: y
def txtT (name : List UInt8) (ps : List (List UInt8)) : List UInt8 :=
  match ps with
  | [] => name
  | p :: r => name ++ 58 :: (p ++ tailT r)
theorem join_cons (p : List UInt8) : ∀ (r : List (List UInt8)), Lib.join (p :: r) [44] = p ++ tailT r := by
  intro r
  induction r generalizing p with
  | nil => simp [Lib.join, tailT, List.intercalate]
  | cons q r ih =>
    have := ih q
    unfold Lib.join List.intercalate at this ⊢
    simp only [List.intersperse, List.flatten_cons, this]
    simp [tailT]
theorem tailT_len {b : Nat} : ∀ {ps : List (List UInt8)}, (∀ p ∈ ps, p.length ≤ b) → (tailT ps).length ≤ ps.length * (b + 1)
  | [], _ => by simp [tailT]
  | p :: ps, h => by
    have h1 := h p (List.mem_cons_self)
    have h2 := tailT_len (ps := ps) fun q hq => h q (List.mem_cons_of_mem _ hq)
    have : (tailT (p :: ps)).length = 1 + p.length + (tailT ps).length := by simp [tailT]; omega
    rw [this, List.length_cons, Nat.add_mul]
    omega
theorem strsOf_map : ∀ (l : List (List UInt8)), strsOf (l.map fun s => [DVal.str s]) = some l
  | [] => rfl
  | s :: l => by simp [strsOf, strsOf_map l]
theorem u107 (n : Nat) (xs : List DVal) : cpJ PR (n + 1) 107 xs = joinSem xs := by
  have e : PR 107 = some (.prim joinSem) := by kernel_rfl
  simp [cpJ, evJ, e, Function.comp_def]
theorem e107 {n : Nat} (hn : 1 ≤ n) (p : List UInt8) (r : List (List UInt8)) (hl : r.length ≤ 1000) (hj : (p ++ tailT r).length ≤ 1000000) : cpJ PR n 107 [strsD .nil (p :: r), .str [44]] = some (.str (p ++ tailT r)) := by
  obtain ⟨n, rfl⟩ : ∃ m, n = m + 1 := ⟨n - 1, by omega⟩
  rw [u107]
  have e : strsD .nil (p :: r) = .slice false 0 1 ((p :: r).map fun s => [DVal.str s]) := rfl
  rw [e]
  simp only [joinSem, strsOf_map, Option.bind_some, join_cons]
  rw [if_pos ⟨by simp; omega, by omega⟩]
theorem apd_strs (σ : Sto) (ps : List (List UInt8)) : (ps = [] ∧ (apd σ 1 (ps.map fun s => [DVal.str s])).1 = .nils) ∨ ∃ p r, ps = p :: r := by
  cases ps with
  | nil => exact .inl ⟨rfl, rfl⟩
  | cons p r => exact .inr ⟨p, r, rfl⟩
theorem l58 {n : Nat} (hn : 10 ≤ n) (z z' : Zs) (sens cats : List (List UInt8)) (s : Nat) (hs : s < sens.length) (c : Nat) (hname : ∀ s ∈ sens, s.length ≤ 100) (hcat : ∀ s ∈ cats, s.length ≤ 100)
    (rs : List (Nat × Nat)) (hrs : ∀ p ∈ rs, p.1 < cats.length ∧ p.2 < cats.length ∧ p.1 ≤ p.2) (hrl : rs.length ≤ 64) (σ : Sto) :
    ∀ (k j m : Nat) (ps : List (List UInt8)), j + k = rs.length → k < m → ps.length ≤ j → (∀ p ∈ ps, p.length ≤ 201) →
    iterJ 0 (L58_0 (cpJ PR n) (ciJ PR n) n (strsD z sens) (strsD z' cats) (lv s c) (slD .nil 2 (rs.map runRow)) (.int .i64 rs.length)) m [.int .i64 j, (apd σ 1 (ps.map fun s => [DVal.str s])).1] (apd σ 1 (ps.map fun s => [DVal.str s])).2 =
      some (.done (.str (txtT (nm sens s) (ps ++ (rs.drop j).map (partT cats)))) (apd σ 1 ((ps ++ (rs.drop j).map (partT cats)).map fun s => [DVal.str s])).2) := by
  intro k
  induction k with
  | zero =>
    intro j m ps hj hm hps hpl
    obtain ⟨m, rfl⟩ : ∃ q, m = q + 1 := ⟨m - 1, by omega⟩
    have hj' : ¬ ((j : Int) < rs.length) := by omega
    refine iterJ_done ?_
    rw [List.drop_eq_nil_of_le (by omega)]
    simp only [List.map_nil, List.append_nil]
    have hg := get_nm hs
    have hnl := hname _ (nm_mem hs)
    rcases apd_strs σ ps with ⟨rfl, -⟩ | ⟨p, r, rfl⟩
    · have e : apd σ 1 [] = (.nils, σ) := rfl
      simp -implicitDefEqProofs [L58_0, B58_0, hj', e, hg, txtT]
    · have hp := hpl p (by simp)
      have ht := tailT_len (b := 201) (ps := r) fun q hq => hpl q (by simp [hq])
      have hrl' : r.length ≤ 64 := by simp at hps; omega
      have htl : (tailT r).length ≤ 64 * 202 := Nat.le_trans ht (Nat.mul_le_mul_right _ hrl')
      have hj := e107 (n := n) (by omega) p r (by omega) (by simp; omega)
      have c1 : binStr .add (nm sens s) [58] = some (.str (nm sens s ++ [58])) := addS (by simp; omega)
      have c2 : binStr .add (nm sens s ++ [58]) (p ++ tailT r) = some (.str (nm sens s ++ 58 :: (p ++ tailT r))) := by rw [addS (by simp; omega)]; simp
      have hne : ¬ ((((p :: r).length : Nat) : Int) = 0) := by simp; omega
      simp only [strsD, List.map_cons] at hj ⊢
      have hlen : (([DVal.str p] :: List.map (fun s => [DVal.str s]) r).length : Int) = ((r.length + 1 : Nat) : Int) := by simp
      have hne2 : ¬ ((r.length : Int) + 1 = 0) := by omega
      simp -implicitDefEqProofs [-binStr.eq_1, L58_0, B58_0, hj', hg, txtT, c1, c2, hj, hne2]
  | succ k ih =>
    intro j m ps hj hm hps hpl
    obtain ⟨m, rfl⟩ : ∃ q, m = q + 1 := ⟨m - 1, by omega⟩
    have hj' : ((j : Int) < rs.length) := by omega
    obtain ⟨p, hp⟩ := get_some (by omega : j < rs.length)
    obtain ⟨h1, h2, h3⟩ := hrs p (List.mem_of_getElem? hp)
    have g1 := get_nm h1
    have g2 := get_nm h2
    have n1 := hcat _ (nm_mem h1)
    have n2 := hcat _ (nm_mem h2)
    have hw : IntKind.i64.wrap ((j : Int) + 1) = (j : Int) + 1 := wrap_i64 (by omega) (by omega)
    have ha := app_apd (σ := σ) (sz := 1) (own := 1) (es := ps.map fun s => [DVal.str s]) (r := [DVal.str (partT cats p)]) (by simp; omega)
    have hmap : (ps.map fun s => [DVal.str s]) ++ [[DVal.str (partT cats p)]] = (ps ++ [partT cats p]).map fun s => [DVal.str s] := by simp
    rw [hmap] at ha
    have hpart : (partT cats p).length ≤ 201 := by unfold partT; split <;> (try simp) <;> omega
    rw [drop_get hp, List.map_cons]
    rw [iterJ_next' (vs' := [.int .i64 ((j + 1 : Nat) : Int), (apd σ 1 ((ps ++ [partT cats p]).map fun s => [DVal.str s])).1]) (σ' := (apd σ 1 ((ps ++ [partT cats p]).map fun s => [DVal.str s])).2), ih (j + 1) m _ (by omega) (by omega) (by simp; omega) (by
      intro q hq
      rcases List.mem_append.1 hq with hq | hq
      · exact hpl q hq
      · simp only [List.mem_singleton] at hq; subst hq; exact hpart)]
    · simp
    · generalize hq : (ps ++ [partT cats p]).map (fun s => [DVal.str s]) = qs at ha ⊢
      by_cases hlt : p.1 < p.2
      · have hne : ¬ ((p.1 : Int) = p.2) := by omega
        simp only [partT, hlt, if_true] at ha
        have c1 : binStr .add (nm cats p.1) [46] = some (.str (nm cats p.1 ++ [46])) := addS (by simp; omega)
        have c2 : binStr .add (nm cats p.1 ++ [46]) (nm cats p.2) = some (.str (nm cats p.1 ++ 46 :: nm cats p.2)) := by rw [addS (by simp; omega)]; simp
        simp -implicitDefEqProofs [-binStr.eq_1, L58_0, B58_0, hj', hp, runRow, g1, g2, hne, ha, hw, c1, c2]
      · have heq : p.2 = p.1 := by omega
        simp only [partT, hlt, if_false] at ha
        simp -implicitDefEqProofs [-binStr.eq_1, L58_0, B58_0, hj', hp, runRow, g1, heq, ha, hw]
def lvT (sens cats : List (List UInt8)) (s : Nat) (c : Nat) : List UInt8 := txtT (nm sens s) ((runs c).map (partT cats))
theorem e58 {n : Nat} (hn : 200 ≤ n) (z z' : Zs) (sens cats : List (List UInt8)) (s : Nat) (hs : s < sens.length) (c : Nat) (hc : c < 18446744073709551616) (hv : ∀ j, c.testBit j = true → j < cats.length) (hname : ∀ s ∈ sens, s.length ≤ 100) (hcat : ∀ s ∈ cats, s.length ≤ 100) :
    cpJ PR n 58 [lv s c, strsD z sens, strsD z' cats] = some (.str (lvT sens cats s c)) := by
  obtain ⟨n, rfl⟩ : ∃ m, n = m + 1 := ⟨n - 1, by omega⟩
  have hl := runsR_len (c := c) (k := 64) (i := 0)
  have := l58 (n := n) (by omega) z z' sens cats s hs c hname hcat (runs c) (fun p hp => ⟨hv _ (runsR_bits hp).1, hv _ (runsR_bits hp).2.1, (runsR_bits hp).2.2.1⟩) hl emptySto (runs c).length 0 n [] (by omega) (by unfold runs; omega) (by simp) (by simp)
  rw [u58]
  simp only [Int.natCast_zero, List.nil_append, List.drop_zero, List.map_nil] at this
  have e : apd emptySto 1 [] = (.nils, emptySto) := rfl
  rw [e] at this
  simp -implicitDefEqProofs [D58, e106 (n := n) (by omega) c hc, this, lvT]
def lofT (cats : List (List UInt8)) : Nat → List (Nat × Nat) → List UInt8
  | _, [] => []
  | i, p :: r => (if i = 0 then 58 else 44) :: (partT cats p ++ lofT cats (i + 1) r)
theorem lofT_tail (cats : List (List UInt8)) : ∀ (r : List (Nat × Nat)) (i : Nat), lofT cats (i + 1) r = tailT (r.map (partT cats))
  | [], i => rfl
  | p :: r, i => by
    rw [lofT, lofT_tail cats r (i + 1)]
    simp [tailT]
theorem lofT_txt (cats : List (List UInt8)) (name : List UInt8) (rs : List (Nat × Nat)) : name ++ lofT cats 0 rs = txtT name (rs.map (partT cats)) := by
  cases rs with
  | nil => simp [lofT, txtT]
  | cons p r => simp [lofT, txtT, lofT_tail]
theorem l86 {n : Nat} (name : List UInt8) (cats : List (List UInt8)) (hcat : ∀ s ∈ cats, s.length ≤ 100 ∧ s ≠ []) (rs : List (Nat × Nat)) (hrs : ∀ p ∈ rs, p.1 < cats.length ∧ p.2 < cats.length) (hrl : rs.length ≤ 64) (σ : Sto) :
    ∀ (k j m : Nat) (t : List UInt8), j + k = rs.length → k < m → t.length ≤ 1000 + 300 * j →
    iterJ 0 (L86_1 (cpJ PR n) (ciJ PR n) n (ltD name (rs.map (spanRow cats)))) m [.int .i64 j, .str t] σ = some (.done (.str (t ++ lofT cats j (rs.drop j))) σ) := by
  intro k
  induction k with
  | zero =>
    intro j m t hj hm ht
    obtain ⟨m, rfl⟩ : ∃ q, m = q + 1 := ⟨m - 1, by omega⟩
    have hj' : ¬ ((j : Int) < rs.length) := by omega
    refine iterJ_done ?_
    rw [List.drop_eq_nil_of_le (by omega)]
    simp -implicitDefEqProofs [L86_1, B86_1, hj', lofT]
  | succ k ih =>
    intro j m t hj hm ht
    obtain ⟨m, rfl⟩ : ∃ q, m = q + 1 := ⟨m - 1, by omega⟩
    have hj' : ((j : Int) < rs.length) := by omega
    obtain ⟨p, hp⟩ := get_some (by omega : j < rs.length)
    obtain ⟨h1, h2⟩ := hrs p (List.mem_of_getElem? hp)
    obtain ⟨n1, n1'⟩ := hcat _ (nm_mem h1)
    obtain ⟨n2, n2'⟩ := hcat _ (nm_mem h2)
    have hw : IntKind.i64.wrap ((j : Int) + 1) = (j : Int) + 1 := wrap_i64 (by omega) (by omega)
    have key : ∀ q : UInt8, (if j = 0 then (58 : UInt8) else 44) = q → (∀ u : List UInt8, (t ++ [q]).length = u.length → True) →
        L86_1 (cpJ PR n) (ciJ PR n) n (ltD name (rs.map (spanRow cats))) [.int .i64 j, .str t] σ = some (.next 0 [.int .i64 ((j + 1 : Nat) : Int), .str (t ++ q :: partT cats p)] σ) := by
      intro q hq _
      have c1 : binStr .add t [q] = some (.str (t ++ [q])) := addS (by simp; omega)
      have c2 : binStr .add (t ++ [q]) (nm cats p.1) = some (.str (t ++ q :: nm cats p.1)) := by rw [addS (by simp; omega)]; simp
      have c3 : binStr .add (t ++ q :: nm cats p.1) [46] = some (.str (t ++ q :: (nm cats p.1 ++ [46]))) := by rw [addS (by simp; omega)]; simp
      have c4 : binStr .add (t ++ q :: (nm cats p.1 ++ [46])) (nm cats p.2) = some (.str (t ++ q :: (nm cats p.1 ++ 46 :: nm cats p.2))) := by rw [addS (by simp; omega)]; simp
      by_cases h0 : j = 0
      · subst h0
        simp only [if_true] at hq
        subst hq
        have q1 : (0 : Int) < rs.length := by omega
        have q2 : 0 < rs.length := by omega
        have q3 : IntKind.i64.wrap 1 = 1 := by decide
        have q4 : rs[0] = p := (List.getElem?_eq_some_iff.1 hp).2
        by_cases hlt : p.1 < p.2
        · simp -implicitDefEqProofs [-binStr.eq_1, L86_1, B86_1, L86_0, J86_0, q1, q2, q3, q4, spanRow, hlt, n2', c1, c2, c3, c4, partT]
        · simp -implicitDefEqProofs [-binStr.eq_1, L86_1, B86_1, L86_0, J86_0, q1, q2, q3, q4, spanRow, hlt, c1, c2, partT]
      · have h0' : ¬ ((j : Int) = 0) := by omega
        simp only [h0, if_false] at hq
        subst hq
        by_cases hlt : p.1 < p.2
        · simp -implicitDefEqProofs [-binStr.eq_1, L86_1, B86_1, L86_0, J86_0, hj', h0, h0', hp, spanRow, hlt, n2', c1, c2, c3, c4, hw, partT]
        · simp -implicitDefEqProofs [-binStr.eq_1, L86_1, B86_1, L86_0, J86_0, hj', h0, h0', hp, spanRow, hlt, c1, c2, hw, partT]
    have hpart : (partT cats p).length ≤ 201 := by unfold partT; split <;> (try simp) <;> omega
    rw [iterJ_next' (key _ rfl fun _ _ => trivial), ih (j + 1) m _ (by omega) (by omega) (by simp; omega), drop_get hp, lofT]
    simp
theorem e86 {n : Nat} (hn : 100 ≤ n) (name : List UInt8) (hname : name.length ≤ 1000) (cats : List (List UInt8)) (hcat : ∀ s ∈ cats, s.length ≤ 100 ∧ s ≠ []) (rs : List (Nat × Nat)) (hrs : ∀ p ∈ rs, p.1 < cats.length ∧ p.2 < cats.length) (hrl : rs.length ≤ 64) :
    cpJ PR n 86 [ltD name (rs.map (spanRow cats))] = some (.str (txtT name (rs.map (partT cats)))) := by
  obtain ⟨n, rfl⟩ : ∃ m, n = m + 1 := ⟨n - 1, by omega⟩
  have := l86 (n := n) name cats hcat rs hrs hrl emptySto rs.length 0 n name (by omega) (by omega) (by omega)
  rw [u86]
  simp only [Int.natCast_zero, List.drop_zero, lofT_txt] at this
  simp -implicitDefEqProofs [D86, this]
theorem txtT_len {name : List UInt8} {ps : List (List UInt8)} (hn : name.length ≤ 100) (hp : ∀ p ∈ ps, p.length ≤ 201) (hl : ps.length ≤ 64) : (txtT name ps).length ≤ 20000 := by
  cases ps with
  | nil => simp only [txtT]; omega
  | cons p r =>
    have h1 := hp p (by simp)
    have h2 := tailT_len (b := 201) (ps := r) fun q hq => hp q (by simp [hq])
    have h3 : r.length ≤ 64 := by simp at hl; omega
    have h4 : (tailT r).length ≤ 64 * 202 := Nat.le_trans h2 (Nat.mul_le_mul_right _ h3)
    simp only [txtT, List.length_append, List.length_cons]
    omega
theorem partT_len {cats : List (List UInt8)} (hcat : ∀ s ∈ cats, s.length ≤ 100) {p : Nat × Nat} (h1 : p.1 < cats.length) (h2 : p.2 < cats.length) : (partT cats p).length ≤ 201 := by
  have a := hcat _ (nm_mem h1)
  have b := hcat _ (nm_mem h2)
  unfold partT
  split <;> (try simp) <;> omega
theorem lvT_len {sens cats : List (List UInt8)} (hf : Few sens cats) {s : Nat} (hs : s < sens.length) {c : Nat} (hv : ∀ j, c.testBit j = true → j < cats.length) : (lvT sens cats s c).length ≤ 20000 := by
  refine txtT_len (hf.as _ (nm_mem hs)) (fun p hp => ?_) ?_
  · simp only [List.mem_map] at hp
    obtain ⟨q, hq, rfl⟩ := hp
    have := runsR_bits hq
    exact partT_len hf.bs (hv _ this.1) (hv _ this.2.1)
  · have := runsR_len (c := c) (k := 64) (i := 0)
    simp only [List.length_map, runs]; omega
def textV (sens cats : List (List UInt8)) (s : Int) (c : Nat) (s' : Int) (c' : Nat) : List UInt8 :=
  if errV (propV sens cats) (rangeV s c s' c' sens.length cats.length) = 0 then
    (if s = s' ∧ c = c' then lvT sens cats s.toNat c else lvT sens cats s.toNat c ++ 45 :: lvT sens cats s'.toNat c')
  else []
theorem errV_zero {P V : Bool} (h : errV P V = 0) : P = true ∧ V = true := by
  unfold errV at h
  cases P <;> cases V <;> simp_all
theorem e27 {n : Nat} (hn : 20030 ≤ n) (z z' : Zs) {sens cats : List (List UInt8)} (hf : Few sens cats) (s : Int) (c : Nat) (s' : Int) (c' : Nat) (hr : Rok c c') : cpJ PR n 27 [rg s c s' c', strsD z sens, strsD z' cats] =
    some (.tup [.str (textV sens cats s c s' c'), .int .i64 (errV (propV sens cats) (rangeV s c s' c' sens.length cats.length))]) := by
  obtain ⟨n, rfl⟩ : ∃ m, n = m + 1 := ⟨n - 1, by omega⟩
  have h1 := e57 (n := n) z z' hf (by omega) s c s' c' hr
  rw [u27]
  unfold textV
  by_cases h0 : errV (propV sens cats) (rangeV s c s' c' sens.length cats.length) = 0
  · obtain ⟨hP, hV⟩ := errV_zero h0
    rw [h0] at h1 ⊢
    obtain ⟨⟨i, i', rfl, rfl, hi, hi'⟩, hb, hb'⟩ := range_facts hr hV
    have w1 := e58 (n := n) (by omega) z z' sens cats i hi c hr.lo hb hf.as hf.bs
    have w2 := e58 (n := n) (by omega) z z' sens cats i' hi' c' hr.hi hb' hf.as hf.bs
    have b1 := lvT_len hf hi hb
    have b2 := lvT_len hf hi' hb'
    by_cases e : (i : Int) = i' ∧ c = c'
    · obtain ⟨e9001, rfl⟩ := e
      obtain rfl : i = i' := by omega
      simp -implicitDefEqProofs [D27, h1, w1]
    · have e9002 := lv_ne e
      rw [if_neg e]
      have c1 : binStr .add (lvT sens cats i c) [45] = some (.str (lvT sens cats i c ++ [45])) := addS (by simp; omega)
      have c2 : binStr .add (lvT sens cats i c ++ [45]) (lvT sens cats i' c') = some (.str (lvT sens cats i c ++ 45 :: lvT sens cats i' c')) := by rw [addS (by simp; omega)]; simp
      simp -implicitDefEqProofs [-binStr.eq_1, D27, h1, w1, w2, e9002, c1, c2]
  · rw [if_neg h0]
    simp -implicitDefEqProofs [D27, h1, h0]
theorem e45 {n : Nat} (hn : 20040 ≤ n) (z z' : Zs) {sens cats : List (List UInt8)} (hf : Few sens cats) (s : Int) (c : Nat) (s' : Int) (c' : Nat) (hr : Rok c c') : cpJ PR n 45 [rg s c s' c', strsD z sens, strsD z' cats] =
    some (.tup [.str (textV sens cats s c s' c'), .int .i64 (errV (propV sens cats) (rangeV s c s' c' sens.length cats.length))]) := by
  obtain ⟨n, rfl⟩ : ∃ m, n = m + 1 := ⟨n - 1, by omega⟩
  have h1 := e85 (n := n) (by omega) z z' hf s c s' c' hr
  rw [u45]
  unfold textV
  unfold srcV at h1
  by_cases h0 : errV (propV sens cats) (rangeV s c s' c' sens.length cats.length) = 0
  · obtain ⟨hP, hV⟩ := errV_zero h0
    rw [h0] at h1 ⊢
    obtain ⟨⟨i, i', rfl, rfl, hi, hi'⟩, hb, hb'⟩ := range_facts hr hV
    have hns : ∀ s ∈ sens, s ≠ [] := fun s hs => by
      simp only [propV, Bool.and_eq_true] at hP
      exact ((properB_name hP.1).1 s hs).1
    have hnc : ∀ s ∈ cats, s.length ≤ 100 ∧ s ≠ [] := fun s hs => by
      simp only [propV, Bool.and_eq_true] at hP
      exact ⟨hf.bs s hs, ((properB_name hP.2).1 s hs).1⟩
    have hl := runsR_len (c := c) (k := 64) (i := 0)
    have hl' := runsR_len (c := c') (k := 64) (i := 0)
    have w1 := e86 (n := n) (by omega) (nm sens i) (by have := hf.as _ (nm_mem hi); omega) cats hnc (runs c) (fun p hp => ⟨hb _ (runsR_bits hp).1, hb _ (runsR_bits hp).2.1⟩) hl
    have w2 := e86 (n := n) (by omega) (nm sens i') (by have := hf.as _ (nm_mem hi'); omega) cats hnc (runs c') (fun p hp => ⟨hb' _ (runsR_bits hp).1, hb' _ (runsR_bits hp).2.1⟩) hl'
    have b1 := lvT_len hf hi hb
    have b2 := lvT_len hf hi' hb'
    have ne := hns _ (nm_mem hi')
    change _ = some (DVal.str (lvT sens cats i c)) at w1
    change _ = some (DVal.str (lvT sens cats i' c')) at w2
    by_cases e : (i : Int) = i' ∧ c = c'
    · obtain ⟨e9001, rfl⟩ := e
      obtain rfl : i = i' := by omega
      simp only [if_true, and_self, Int.toNat_natCast, rowsV] at h1
      simp -implicitDefEqProofs [D45, h1, w1]
    · rw [if_neg e]
      simp only [if_true, if_neg e, Int.toNat_natCast, rowsV] at h1
      have c1 : binStr .add (lvT sens cats i c) [45] = some (.str (lvT sens cats i c ++ [45])) := addS (by simp; omega)
      have c2 : binStr .add (lvT sens cats i c ++ [45]) (lvT sens cats i' c') = some (.str (lvT sens cats i c ++ 45 :: lvT sens cats i' c')) := by rw [addS (by simp; omega)]; simp
      simp -implicitDefEqProofs [-binStr.eq_1, D45, h1, w1, w2, c1, c2, ne]
  · rw [if_neg h0]
    rw [if_neg h0] at h1
    simp -implicitDefEqProofs [D45, h1, h0]
end Go.Proofs.YthpccimmmfonjaaGreatDoor
namespace Go.Proofs.YthpccimmmfonjaaGreatDoor
set_option linter.unusedVariables false
set_option linter.unusedSimpArgs false
open Go
theorem index_none {c : UInt8} : ∀ {s : Bs}, c ∉ s → Lib.index s [c] = -1
  | [], _ => rfl
  | b :: l, h => by
    simp only [List.mem_cons, not_or] at h
    have := index_none h.2
    have hb : ¬ (c = b) := h.1
    simp [Lib.index, List.isPrefixOf, hb, this]
theorem index_at {c : UInt8} {b : Bs} : ∀ {a : Bs}, c ∉ a → Lib.index (a ++ c :: b) [c] = a.length
  | [], _ => by simp [Lib.index, List.isPrefixOf]
  | x :: a, h => by
    simp only [List.mem_cons, not_or] at h
    have := index_at (b := b) h.2
    have hb : ¬ (c = x) := h.1
    have hne : ¬ ((a.length : Int) = -1) := by omega
    simp [Lib.index, List.isPrefixOf, hb, this, hne]
theorem cut_miss {c : UInt8} {s : Bs} (h : c ∉ s) : Lib.cut s [c] = (s, [], false) := by
  simp [Lib.cut, index_none h]
theorem cut_hit {c : UInt8} {a b : Bs} (h : c ∉ a) : Lib.cut (a ++ c :: b) [c] = (a, b, true) := by
  have h0 : (0 : Int) ≤ a.length := by omega
  simp [Lib.cut, index_at h, h0]
theorem cut_exists (c : UInt8) : ∀ (s : Bs), c ∉ s ∨ ∃ a b, s = a ++ c :: b ∧ c ∉ a
  | [] => .inl (by simp)
  | x :: s => by
    by_cases h : x = c
    · subst h; exact .inr ⟨[], s, rfl, by simp⟩
    · rcases cut_exists c s with h' | ⟨a, b, rfl, h'⟩
      · exact .inl (by simp [h', Ne.symm h])
      · exact .inr ⟨x :: a, b, rfl, by simp [h', Ne.symm h]⟩
def joinC (c : UInt8) (p : Bs) (r : List Bs) : Bs := p ++ r.flatMap fun q => c :: q
theorem count_join {c : UInt8} : ∀ {r : List Bs} {p : Bs}, c ∉ p → (∀ q ∈ r, c ∉ q) → Lib.count (joinC c p r) [c] = r.length
  | [], p, hp, _ => by simp [joinC, Lib.count_miss (index_none hp)]
  | q :: r, p, hp, hr => by
    have e : joinC c p (q :: r) = p ++ c :: joinC c q r := by simp [joinC]
    rw [e, Lib.count_hit (by simp) (index_at hp)]
    have : (p ++ c :: joinC c q r).drop (p.length + [c].length) = joinC c q r := by simp
    rw [this, count_join (hr q (by simp)) (fun x hx => hr x (by simp [hx]))]
    simp; omega
theorem splitK_join {c : UInt8} : ∀ {r : List Bs} {p : Bs} {k : Nat}, r.length ≤ k → c ∉ p → (∀ q ∈ r, c ∉ q) → Lib.splitK [c] 0 k (joinC c p r) = p :: r
  | [], p, k, hk, hp, _ => by
    have e : joinC c p [] = p := by simp [joinC]
    rw [e]
    cases k with
    | zero => rfl
    | succ k => simp [Lib.splitK, index_none hp]
  | q :: r, p, k, hk, hp, hr => by
    obtain ⟨k, rfl⟩ : ∃ j, k = j + 1 := ⟨k - 1, by simp at hk; omega⟩
    have e : joinC c p (q :: r) = p ++ c :: joinC c q r := by simp [joinC]
    have hne : ¬ ((p.length : Int) = -1) := by omega
    rw [e, Lib.splitK, index_at hp]
    have : (p ++ c :: joinC c q r).drop (p.length + 1) = joinC c q r := by simp
    simp [hne, this, splitK_join (k := k) (by simp at hk; omega) (hr q (by simp)) (fun x hx => hr x (by simp [hx]))]
theorem joinC_len {c : UInt8} : ∀ {r : List Bs} {p : Bs}, r.length ≤ (joinC c p r).length
  | [], p => by simp
  | q :: r, p => by
    have := joinC_len (c := c) (r := r) (p := q)
    have e : joinC c p (q :: r) = p ++ c :: joinC c q r := by simp [joinC]
    rw [e]
    simp; omega
theorem split_join {c : UInt8} {r : List Bs} {p : Bs} (hp : c ∉ p) (hr : ∀ q ∈ r, c ∉ q) : Lib.splitN (joinC c p r) [c] (Lib.count (joinC c p r) [c] + 1) = p :: r := by
  unfold Lib.splitN
  rw [count_join hp hr]
  exact splitK_join (by have := joinC_len (c := c) (r := r) (p := p); omega) hp hr
theorem split_exists (c : UInt8) : ∀ (s : Bs), ∃ p r, s = joinC c p r ∧ c ∉ p ∧ ∀ q ∈ r, c ∉ q
  | [] => ⟨[], [], rfl, by simp, by simp⟩
  | x :: s => by
    obtain ⟨p, r, rfl, h1, h2⟩ := split_exists c s
    by_cases h : x = c
    · subst h
      exact ⟨[], p :: r, by simp [joinC], by simp, by simpa using ⟨h1, h2⟩⟩
    · exact ⟨x :: p, r, by simp [joinC], by simp [h1, Ne.symm h], h2⟩
def wordP (w : Bs) : Prop := wordV w = true
theorem wordP_iff {w : Bs} : wordP w ↔ w.all isL = true ∧ w ≠ [] := by
  unfold wordP wordV
  rw [Bool.and_eq_true, Bool.not_eq_true', List.isEmpty_eq_false_iff]
theorem isL_sp : isL 58 = false ∧ isL 44 = false ∧ isL 46 = false ∧ isL 45 = false := by decide
theorem not_mem_word {w : Bs} (h : w.all isL = true) {c : UInt8} (hc : isL c = false) : c ∉ w := fun hm => by
  have := List.all_eq_true.1 h c hm
  rw [hc] at this; cases this
def partS (p : Bs × Bs) : Bs := if p.2 = [] then p.1 else p.1 ++ 46 :: p.2
def ValidSp (p : Bs × Bs) : Prop := wordP p.1 ∧ (p.2 = [] ∨ wordP p.2)
def ValidL (l : Bs × List (Bs × Bs)) : Prop := wordP l.1 ∧ ∀ p ∈ l.2, ValidSp p
def renderL (l : Bs × List (Bs × Bs)) : Bs := txtT l.1 (l.2.map partS)
def spanP (u : Bs) : Option (Bs × Bs) := let r := Lib.cut u [46]; if wordV r.1 = true ∧ (r.2.2 = true → wordV r.2.1 = true) then some (r.1, r.2.1) else none
def mapO {α β : Type} (f : α → Option β) : List α → Option (List β)
  | [] => some []
  | x :: xs => match f x, mapO f xs with
    | some y, some ys => some (y :: ys)
    | _, _ => none
def parsedP (u : Bs) : Option (Bs × List (Bs × Bs)) :=
  let r := Lib.cut u [58]
  if wordV r.1 = true then (if r.2.2 = true then (mapO spanP (Lib.splitN r.2.1 [44] (Lib.count r.2.1 [44] + 1))).map fun sp => (r.1, sp) else some (r.1, [])) else none
theorem spanP_sound {u : Bs} {p : Bs × Bs} (h : spanP u = some p) : u = partS p ∧ ValidSp p := by
  unfold spanP at h
  rcases cut_exists 46 u with hm | ⟨a, b, rfl, hm⟩
  · rw [cut_miss hm] at h
    simp only [Bool.false_eq_true, false_implies, and_true] at h
    split at h
    · rename_i hw
      simp only [Option.some.injEq] at h
      subst h
      exact ⟨by simp [partS], hw, .inl rfl⟩
    · cases h
  · rw [cut_hit hm] at h
    simp only [true_implies] at h
    split at h
    · rename_i hw
      simp only [Option.some.injEq] at h
      subst h
      have hb : b ≠ [] := (wordP_iff.1 hw.2).2
      exact ⟨by simp [partS, hb], hw.1, .inr hw.2⟩
    · cases h
theorem spanP_complete {p : Bs × Bs} (h : ValidSp p) : spanP (partS p) = some p := by
  obtain ⟨f, t⟩ := p
  obtain ⟨h1, h2⟩ := h
  have hf : (46 : UInt8) ∉ f := not_mem_word (wordP_iff.1 h1).1 isL_sp.2.2.1
  unfold spanP
  by_cases ht : t = []
  · subst ht
    have : partS (f, []) = f := by simp [partS]
    rw [this, cut_miss hf]
    simp [show wordV f = true from h1]
  · have hw : wordV t = true := by rcases h2 with h2 | h2
                                   · exact absurd h2 ht
                                   · exact h2
    have : partS (f, t) = f ++ 46 :: t := by simp [partS, ht]
    rw [this, cut_hit hf]
    simp [show wordV f = true from h1, hw]
theorem comma_part {p : Bs × Bs} (h : ValidSp p) : (44 : UInt8) ∉ partS p := by
  obtain ⟨f, t⟩ := p
  obtain ⟨h1, h2⟩ := h
  have hf : (44 : UInt8) ∉ f := not_mem_word (wordP_iff.1 h1).1 isL_sp.2.1
  unfold partS
  split
  · exact hf
  · rename_i ht
    rcases h2 with h2 | h2
    · exact absurd h2 ht
    · have ht' : (44 : UInt8) ∉ t := not_mem_word (wordP_iff.1 h2).1 isL_sp.2.1
      simp only at ht' ⊢
      simp [hf, ht']
theorem mapO_sound {us : List Bs} : ∀ {sp : List (Bs × Bs)}, mapO spanP us = some sp → us = sp.map partS ∧ ∀ p ∈ sp, ValidSp p := by
  induction us with
  | nil => intro sp h; simp only [mapO, Option.some.injEq] at h; subst h; simp
  | cons u us ih =>
    intro sp h
    simp only [mapO] at h
    split at h
    · rename_i y ys h1 h2
      simp only [Option.some.injEq] at h
      subst h
      obtain ⟨a1, a2⟩ := spanP_sound h1
      obtain ⟨b1, b2⟩ := ih h2
      refine ⟨by simp [a1, b1], fun p hp => ?_⟩
      rcases List.mem_cons.1 hp with rfl | hp
      · exact a2
      · exact b2 p hp
    · cases h
theorem mapO_complete : ∀ {sp : List (Bs × Bs)}, (∀ p ∈ sp, ValidSp p) → mapO spanP (sp.map partS) = some sp
  | [], _ => rfl
  | p :: sp, h => by
    simp only [List.map_cons, mapO, spanP_complete (h p (by simp)), mapO_complete (sp := sp) fun q hq => h q (by simp [hq])]
theorem parsedP_sound {u : Bs} {l : Bs × List (Bs × Bs)} (h : parsedP u = some l) : u = renderL l ∧ ValidL l := by
  unfold parsedP at h
  rcases cut_exists 58 u with hm | ⟨a, b, rfl, hm⟩
  · rw [cut_miss hm] at h
    simp only [Bool.false_eq_true, if_false] at h
    split at h
    · rename_i hw
      simp only [Option.some.injEq] at h
      subst h
      exact ⟨by simp [renderL, txtT], hw, by simp⟩
    · cases h
  · rw [cut_hit hm] at h
    simp only [if_true] at h
    split at h
    · rename_i hw
      simp only [Option.map_eq_some_iff] at h
      obtain ⟨sp, h, rfl⟩ := h
      obtain ⟨p, r, rfl, hp, hr⟩ := split_exists 44 b
      rw [split_join hp hr] at h
      obtain ⟨h1, h2⟩ := mapO_sound h
      refine ⟨?_, hw, h2⟩
      simp only [renderL, ← h1, txtT, tailT, joinC]
    · cases h
theorem parsedP_complete {l : Bs × List (Bs × Bs)} (h : ValidL l) : parsedP (renderL l) = some l := by
  obtain ⟨name, sp⟩ := l
  obtain ⟨h1, h2⟩ := h
  have hn : (58 : UInt8) ∉ name := not_mem_word (wordP_iff.1 h1).1 isL_sp.1
  unfold parsedP
  cases sp with
  | nil =>
    have : renderL (name, []) = name := by simp [renderL, txtT]
    rw [this, cut_miss hn]
    simp [show wordV name = true from h1]
  | cons p r =>
    have hc := mapO_complete (sp := p :: r) h2
    have e : renderL (name, p :: r) = name ++ 58 :: joinC 44 (partS p) (r.map partS) := by simp [renderL, txtT, tailT, joinC]
    rw [e, cut_hit hn]
    have hs := split_join (c := 44) (p := partS p) (r := r.map partS) (comma_part (h2 p (by simp))) (fun q hq => by
      simp only [List.mem_map] at hq
      obtain ⟨x, hx, rfl⟩ := hq
      exact comma_part (h2 x (by simp [hx])))
    simp only [if_true, hs, show wordV name = true from h1]
    rw [List.map_cons] at hc
    rw [hc]
    rfl
def tw (u : Bs) : Bs := u.takeWhile isL
def dw (u : Bs) : Bs := u.dropWhile isL
theorem tw_dw (u : Bs) : tw u ++ dw u = u := List.takeWhile_append_dropWhile
theorem tw_word (w : Bs) (h : w.all isL = true) (u : Bs) (hu : u = [] ∨ ∃ c v, u = c :: v ∧ isL c = false) : tw (w ++ u) = w ∧ dw (w ++ u) = u := by
  unfold tw dw
  have h' : ∀ x ∈ w, isL x = true := List.all_eq_true.1 h
  rw [List.takeWhile_append_of_pos h', List.dropWhile_append_of_pos h']
  rcases hu with rfl | ⟨c, v, rfl, hc⟩
  · simp
  · simp [hc]
theorem tw_all (u : Bs) : (tw u).all isL = true := List.all_takeWhile
def sepB (first : Bool) : UInt8 := if first then 58 else 44
def spansR : Nat → Bool → Bs → Option (List (Bs × Bs) × Bs)
  | 0, _, _ => none
  | k + 1, first, u =>
    match u with
    | [] => some ([], [])
    | c :: u' =>
      if c = sepB first then
        if tw u' = [] then none
        else match dw u' with
          | 46 :: v => if tw v = [] then none else (spansR k false (dw v)).map fun x => ((tw u', tw v) :: x.1, x.2)
          | w => (spansR k false w).map fun x => ((tw u', []) :: x.1, x.2)
      else some ([], c :: u')
def levelR (k : Nat) (u : Bs) : Option ((Bs × List (Bs × Bs)) × Bs) :=
  if tw u = [] then none else (spansR k true (dw u)).map fun x => ((tw u, x.1), x.2)
def renderSp (first : Bool) : List (Bs × Bs) → Bs
  | [] => []
  | p :: r => sepB first :: (partS p ++ renderSp false r)
theorem renderSp_tail : ∀ (r : List (Bs × Bs)), renderSp false r = tailT (r.map partS)
  | [] => rfl
  | p :: r => by simp [renderSp, renderSp_tail r, tailT, sepB]
theorem renderL_sp (l : Bs × List (Bs × Bs)) : renderL l = l.1 ++ renderSp true l.2 := by
  obtain ⟨name, sp⟩ := l
  cases sp with
  | nil => simp [renderL, txtT, renderSp]
  | cons p r => simp [renderL, txtT, renderSp, renderSp_tail, sepB]
theorem spansR_sound : ∀ (k : Nat) (first : Bool) (u : Bs) (sp : List (Bs × Bs)) (rest : Bs), spansR k first u = some (sp, rest) → u = renderSp first sp ++ rest ∧ ∀ p ∈ sp, ValidSp p
  | 0, first, u, sp, rest, h => by simp [spansR] at h
  | k + 1, first, u, sp, rest, h => by
    unfold spansR at h
    split at h
    · simp only [Option.some.injEq, Prod.mk.injEq] at h
      obtain ⟨rfl, rfl⟩ := h
      exact ⟨rfl, by simp⟩
    · rename_i c u'
      split at h
      · rename_i hc
        split at h
        · cases h
        · rename_i hf
          have wf : wordP (tw u') := wordP_iff.2 ⟨tw_all u', hf⟩
          split at h
          · rename_i v hv
            split at h
            · cases h
            · rename_i ht
              simp only [Option.map_eq_some_iff, Prod.mk.injEq] at h
              obtain ⟨⟨sp', rest'⟩, hk, rfl, rfl⟩ := h
              obtain ⟨a1, a2⟩ := spansR_sound k false _ _ _ hk
              have wt : wordP (tw v) := wordP_iff.2 ⟨tw_all v, ht⟩
              refine ⟨?_, fun p hp => ?_⟩
              · have e9001 := tw_dw u'
                have e9002 := tw_dw v
                rw [hv] at e9001
                simp only [renderSp, partS, ht, if_false, ← hc]
                conv => lhs; rw [← e9001, ← e9002, a1]
                simp
              · rcases List.mem_cons.1 hp with rfl | hp
                · exact ⟨wf, .inr wt⟩
                · exact a2 p hp
          · simp only [Option.map_eq_some_iff, Prod.mk.injEq] at h
            obtain ⟨⟨sp', rest'⟩, hk, rfl, rfl⟩ := h
            obtain ⟨a1, a2⟩ := spansR_sound k false _ _ _ hk
            refine ⟨?_, fun p hp => ?_⟩
            · have e9001 := tw_dw u'
              simp only [renderSp, partS, if_true, ← hc]
              conv => lhs; rw [← e9001, a1]
              simp
            · rcases List.mem_cons.1 hp with rfl | hp
              · exact ⟨wf, .inl rfl⟩
              · exact a2 p hp
      · simp only [Option.some.injEq, Prod.mk.injEq] at h
        obtain ⟨rfl, rfl⟩ := h
        exact ⟨by simp [renderSp], by simp⟩
def Ends (rest : Bs) : Prop := rest = [] ∨ ∃ r, rest = 45 :: r
theorem ends_or {sp : List (Bs × Bs)} {rest : Bs} (h : Ends rest) (first : Bool) : (renderSp first sp ++ rest = [] ∨ ∃ c v, renderSp first sp ++ rest = c :: v ∧ isL c = false) ∧ ∀ v, renderSp first sp ++ rest ≠ 46 :: v := by
  cases sp with
  | nil =>
    rcases h with rfl | ⟨r, rfl⟩
    · exact ⟨.inl rfl, by simp [renderSp]⟩
    · exact ⟨.inr ⟨45, r, rfl, isL_sp.2.2.2⟩, by simp [renderSp]⟩
  | cons p r =>
    cases first
    · exact ⟨.inr ⟨44, _, rfl, isL_sp.2.1⟩, by simp [renderSp, sepB]⟩
    · exact ⟨.inr ⟨58, _, rfl, isL_sp.1⟩, by simp [renderSp, sepB]⟩
theorem spansR_complete {rest : Bs} (hr : Ends rest) : ∀ (sp : List (Bs × Bs)) (k : Nat) (first : Bool), sp.length < k → (∀ p ∈ sp, ValidSp p) → spansR k first (renderSp first sp ++ rest) = some (sp, rest)
  | [], k, first, hk, _ => by
    obtain ⟨k, rfl⟩ : ∃ j, k = j + 1 := ⟨k - 1, by omega⟩
    rcases hr with rfl | ⟨r, rfl⟩
    · rfl
    · cases first <;> simp [spansR, renderSp, sepB]
  | p :: sp, k, first, hk, hv => by
    obtain ⟨k, rfl⟩ : ∃ j, k = j + 1 := ⟨k - 1, by omega⟩
    obtain ⟨f, t⟩ := p
    obtain ⟨h1, h2⟩ := hv (f, t) (by simp)
    have ih := spansR_complete hr sp k false (by simp at hk; omega) fun q hq => hv q (by simp [hq])
    obtain ⟨e9001, e9002⟩ := ends_or (sp := sp) hr false
    have wf := wordP_iff.1 h1
    simp only [renderSp, List.cons_append, spansR, if_true]
    by_cases ht : t = []
    · subst ht
      have hp : partS (f, []) = f := by simp [partS]
      rw [hp, List.append_assoc]
      obtain ⟨g1, g2⟩ := tw_word f wf.1 _ e9001
      simp only [g1, g2, wf.2, if_false]
      rw [ih]; rfl
    · have wt : wordP t := by rcases h2 with h2 | h2
                              · exact absurd h2 ht
                              · exact h2
      have wt' := wordP_iff.1 wt
      have hp : partS (f, t) = f ++ 46 :: t := by simp [partS, ht]
      rw [hp, List.append_assoc, List.append_assoc, List.cons_append]
      obtain ⟨g1, g2⟩ := tw_word f wf.1 (46 :: (t ++ (renderSp false sp ++ rest))) (.inr ⟨46, _, rfl, isL_sp.2.2.1⟩)
      obtain ⟨g3, g4⟩ := tw_word t wt'.1 _ e9001
      simp only [g1, g2, g3, g4, wf.2, wt'.2, if_false, ih, Option.map_some]
theorem levelR_sound {k : Nat} {u rest : Bs} {l : Bs × List (Bs × Bs)} (h : levelR k u = some (l, rest)) : u = renderL l ++ rest ∧ ValidL l := by
  unfold levelR at h
  split at h
  · cases h
  · rename_i hn
    simp only [Option.map_eq_some_iff, Prod.mk.injEq] at h
    obtain ⟨⟨sp, r⟩, hs, rfl, rfl⟩ := h
    obtain ⟨a1, a2⟩ := spansR_sound _ _ _ _ _ hs
    refine ⟨?_, wordP_iff.2 ⟨tw_all u, hn⟩, a2⟩
    rw [renderL_sp, List.append_assoc, ← a1, tw_dw]
theorem levelR_complete {k : Nat} {rest : Bs} {l : Bs × List (Bs × Bs)} (hr : Ends rest) (hk : l.2.length < k) (h : ValidL l) : levelR k (renderL l ++ rest) = some (l, rest) := by
  obtain ⟨name, sp⟩ := l
  have wn := wordP_iff.1 h.1
  obtain ⟨e9001, -⟩ := ends_or (sp := sp) hr true
  unfold levelR
  rw [renderL_sp, List.append_assoc]
  obtain ⟨g1, g2⟩ := tw_word name wn.1 _ e9001
  simp only [g1, g2, wn.2, if_false, spansR_complete hr sp k true hk h.2, Option.map_some]
end Go.Proofs.YthpccimmmfonjaaGreatDoor
namespace Go.Proofs.YthpccimmmfonjaaGreatDoor
set_option linter.unusedVariables false
set_option linter.unusedSimpArgs false
set_option maxRecDepth 20000
set_option maxHeartbeats 2000000
open Go
abbrev Sp := List UInt8 × List UInt8
abbrev spD (z : Zs) (sp : List Sp) : DVal := slD z 2 (sp.map fun p => [DVal.str p.1, DVal.str p.2])
theorem idxAt_cases (s : List UInt8) : ∀ (l : List (List UInt8)) (i : Nat), idxAt s l i = -1 ∨ ∃ j : Nat, idxAt s l i = ((i + j : Nat) : Int) ∧ j < l.length ∧ l[j]? = some s
  | [], i => .inl rfl
  | x :: xs, i => by
    unfold idxAt
    by_cases e : x = s
    · exact .inr ⟨0, by simp [e], by simp, by simp [e]⟩
    · simp only [e, if_false]
      rcases idxAt_cases s xs (i + 1) with h | ⟨j, h1, h2, h3⟩
      · exact .inl h
      · exact .inr ⟨j + 1, by rw [h1]; congr 1; omega, by simp; omega, by simpa using h3⟩
def bitsR (c : Nat) : Nat → Nat → Nat
  | _, 0 => c
  | a, k + 1 => bitsR (c ||| 2 ^ a) (a + 1) k
theorem pow_lt {a : Nat} (h : a < 64) : 2 ^ a < 18446744073709551616 := Nat.pow_lt_pow_right (by decide) h
theorem bitsR_lt : ∀ {k a c : Nat}, c < 18446744073709551616 → a + k ≤ 64 → bitsR c a k < 18446744073709551616
  | 0, a, c, h, _ => h
  | k + 1, a, c, h, hk => by
    have h1 := or_lt h (pow_lt (by omega : a < 64))
    exact bitsR_lt (k := k) (a := a + 1) h1 (by omega)
theorem shl_one {a : Nat} (h : a < 64) : IntKind.u64.wrap (1 * 2 ^ min a 64) = ((2 ^ a : Nat) : Int) := by
  have e : (2 : Int) ^ a = ((2 ^ a : Nat) : Int) := (Int.natCast_pow 2 a).symm
  have h1 := pow_lt h
  rw [show min a 64 = a by omega, Int.one_mul, e]
  generalize 2 ^ a = x at h1
  exact wrap_u64 (by omega) (by omega)
def lvlAcc (cats : List (List UInt8)) : List Sp → Nat → Nat × Int
  | [], c => (c, 0)
  | p :: r, c =>
    let a := idxAt p.1 cats 0
    let b := if p.2 ≠ [] then idxAt p.2 cats 0 else a
    if a < 0 ∨ b < 0 then (0, 11) else if b < a then (0, 18) else lvlAcc cats r (bitsR c a.toNat (b.toNat + 1 - a.toNat))
abbrev lvE (s : Int) (c : Nat) (e : Int) : DVal := .tup [lv s c, .int .i64 e]
def accD (s : Int) (x : Nat × Int) : DVal := if x.2 = 0 then lvE s x.1 0 else lvE 0 0 x.2
theorem lvlAcc_cons (cats : List (List UInt8)) (p : Sp) (r : List Sp) (c : Nat) : lvlAcc cats (p :: r) c =
    if idxAt p.1 cats 0 < 0 ∨ (if p.2 ≠ [] then idxAt p.2 cats 0 else idxAt p.1 cats 0) < 0 then (0, 11)
    else if (if p.2 ≠ [] then idxAt p.2 cats 0 else idxAt p.1 cats 0) < idxAt p.1 cats 0 then (0, 18)
    else lvlAcc cats r (bitsR c (idxAt p.1 cats 0).toNat ((if p.2 ≠ [] then idxAt p.2 cats 0 else idxAt p.1 cats 0).toNat + 1 - (idxAt p.1 cats 0).toNat)) := rfl
theorem l105_0 {n : Nat} (s : Int) (j : Nat) (hj : j ≤ 1000) (b : Nat) (hb : b < 64) (σ : Sto) : ∀ (k a c m : Nat), a + k = b + 1 → k < m → c < 18446744073709551616 →
    iterJ 1 (L105_0 (cpJ PR n) (ciJ PR n) n (.int .i64 j) (.int .i64 0) (lv 0 0) (.int .i64 b)) m [.int .i64 a, lv s c] σ = some (.next 0 [.int .i64 ((j + 1 : Nat) : Int), .int .i64 0, lv s (bitsR c a k), lv 0 0] σ) := by
  intro k
  induction k with
  | zero =>
    intro a c m ha hm hc
    obtain ⟨m, rfl⟩ : ∃ q, m = q + 1 := ⟨m - 1, by omega⟩
    have h1 : ¬ ((a : Int) ≤ b) := by omega
    have hw : IntKind.i64.wrap ((j : Int) + 1) = (j : Int) + 1 := wrap_i64 (by omega) (by omega)
    refine iterJ_out ?_ (by decide)
    simp -implicitDefEqProofs [L105_0, B105_0, h1, hw, bitsR]
  | succ k ih =>
    intro a c m ha hm hc
    obtain ⟨m, rfl⟩ : ∃ q, m = q + 1 := ⟨m - 1, by omega⟩
    have h1 : ((a : Int) ≤ b) := by omega
    have h2 : ¬ ((a : Int) < 0) := by omega
    have hw : IntKind.i64.wrap ((a : Int) + 1) = (a : Int) + 1 := wrap_i64 (by omega) (by omega)
    have hs := shl_one (by omega : a < 64)
    have ho := or_nat c (2 ^ a) hc (pow_lt (by omega))
    rw [iterJ_next' (vs' := [.int .i64 ((a + 1 : Nat) : Int), lv s (c ||| 2 ^ a)]) (σ' := σ), ih (a + 1) _ m (by omega) (by omega) (or_lt hc (pow_lt (by omega)))]
    · rfl
    · simp only [Int.one_mul] at hs
      simp -implicitDefEqProofs [L105_0, B105_0, h1, h2, hw, IntKind.bits, hs, ho, -Int.natCast_pow]
theorem l105_2 {n : Nat} (hn : 1200 ≤ n) (z z' : Zs) (cats : List (List UInt8)) (hcl : cats.length ≤ 64) (sp : List Sp) (hsp : sp.length ≤ 1000) (s : Int) (σ : Sto) : ∀ (k j m c : Nat), j + k = sp.length → k < m → c < 18446744073709551616 →
    iterJ 0 (L105_2 (cpJ PR n) (ciJ PR n) n (strsD z cats) (spD z' sp) (.int .i64 sp.length)) m [.int .i64 j, .int .i64 0, lv s c, lv 0 0] σ = some (.done (accD s (lvlAcc cats (sp.drop j) c)) σ) := by
  intro k
  induction k with
  | zero =>
    intro j m c hj hm hc
    obtain ⟨m, rfl⟩ : ∃ q, m = q + 1 := ⟨m - 1, by omega⟩
    have h1 : ¬ ((j : Int) < sp.length) := by omega
    refine iterJ_done ?_
    rw [List.drop_eq_nil_of_le (by omega)]
    simp -implicitDefEqProofs [L105_2, B105_2, h1, lvlAcc, accD]
  | succ k ih =>
    intro j m c hj hm hc
    obtain ⟨m, rfl⟩ : ∃ q, m = q + 1 := ⟨m - 1, by omega⟩
    have h1 : ((j : Int) < sp.length) := by omega
    obtain ⟨p, hp⟩ := get_some (by omega : j < sp.length)
    have f1 := e108 (n := n) z cats p.1 (by omega) (by omega)
    have f2 := e108 (n := n) z cats p.2 (by omega) (by omega)
    rw [drop_get hp, lvlAcc_cons]
    generalize hA : idxAt p.1 cats 0 = A at f1 ⊢
    generalize hB : idxAt p.2 cats 0 = B at f2 ⊢
    have hA' := idxAt_cases p.1 cats 0
    have hB' := idxAt_cases p.2 cats 0
    rw [hA] at hA'
    rw [hB] at hB'
    -- the case of the second name
    have main : ∀ b : Int, (if p.2 ≠ [] then B else A) = b → (b = -1 ∨ ∃ q : Nat, b = q ∧ q < 64) →
        iterJ 0 (L105_2 (cpJ PR n) (ciJ PR n) n (strsD z cats) (spD z' sp) (.int .i64 sp.length)) (m + 1) [.int .i64 j, .int .i64 0, lv s c, lv 0 0] σ =
        some (.done (accD s (if A < 0 ∨ b < 0 then (0, 11) else if b < A then (0, 18) else lvlAcc cats (sp.drop (j + 1)) (bitsR c A.toNat (b.toNat + 1 - A.toNat)))) σ) := by
      intro b hb hbc
      have step : L105_2 (cpJ PR n) (ciJ PR n) n (strsD z cats) (spD z' sp) (.int .i64 sp.length) [.int .i64 j, .int .i64 0, lv s c, lv 0 0] σ =
          L105_1 (cpJ PR n) (ciJ PR n) n (.int .i64 j) (.int .i64 0) (lv s c) (lv 0 0) (.int .i64 A) [.int .i64 b] σ := by
        rw [← hb]
        by_cases h2 : p.2 = []
        · simp only [h2, ne_eq, not_true_eq_false, if_false]
          simp -implicitDefEqProofs [L105_2, B105_2, h1, hp, h2, f1]
        · simp only [h2, ne_eq, not_false_eq_true, if_true]
          simp -implicitDefEqProofs [L105_2, B105_2, h1, hp, h2, f1, f2]
      by_cases hA0 : A < 0
      · rw [if_pos (.inl hA0)]
        refine iterJ_done (step.trans ?_)
        simp -implicitDefEqProofs [L105_1, J105_1, hA0, accD]
      · by_cases hb0 : b < 0
        · rw [if_pos (.inr hb0)]
          refine iterJ_done (step.trans ?_)
          simp -implicitDefEqProofs [L105_1, J105_1, hA0, hb0, accD]
        · rw [if_neg (by omega)]
          by_cases hba : b < A
          · rw [if_pos hba]
            refine iterJ_done (step.trans ?_)
            simp -implicitDefEqProofs [L105_1, J105_1, hA0, hb0, hba, accD]
          · rw [if_neg hba]
            obtain ⟨q, rfl, hq⟩ : ∃ q : Nat, b = q ∧ q < 64 := hbc.resolve_left (by omega)
            obtain ⟨a, rfl⟩ : ∃ a : Nat, A = a := ⟨A.toNat, by omega⟩
            have hl := l105_0 (n := n) s j (by omega) q hq σ (q + 1 - a) a c n (by omega) (by omega) hc
            have : L105_1 (cpJ PR n) (ciJ PR n) n (.int .i64 j) (.int .i64 0) (lv s c) (lv 0 0) (.int .i64 a) [.int .i64 q] σ = iterJ 1 (L105_0 (cpJ PR n) (ciJ PR n) n (.int .i64 j) (.int .i64 0) (lv 0 0) (.int .i64 q)) n [.int .i64 a, lv s c] σ := by
              simp -implicitDefEqProofs [L105_1, J105_1, hA0, hb0, hba]
            rw [iterJ_next' ((step.trans this).trans hl), ih (j + 1) m _ (by omega) (by omega) (bitsR_lt hc (by omega))]
            simp
    refine main _ rfl ?_
    by_cases h2 : p.2 = []
    · simp only [h2, ne_eq, not_true_eq_false, if_false]
      rcases hA' with h | ⟨q, h, hq, -⟩
      · exact .inl h
      · exact .inr ⟨q, by simpa using h, by omega⟩
    · simp only [h2, ne_eq, not_false_eq_true, if_true]
      rcases hB' with h | ⟨q, h, hq, -⟩
      · exact .inl h
      · exact .inr ⟨q, by simpa using h, by omega⟩
def levelV (sens cats : List (List UInt8)) (name : List UInt8) (sp : List Sp) : DVal :=
  if propV sens cats = true then (if idxAt name sens 0 < 0 then lvE 0 0 11 else accD (idxAt name sens 0) (lvlAcc cats sp 0)) else lvE 0 0 2
theorem e105 {n : Nat} (hn : 20020 ≤ n) (z z' z2 : Zs) {sens cats : List (List UInt8)} (hf : Few sens cats) (name : List UInt8) (sp : List Sp) (hsp : sp.length ≤ 1000) :
    cpJ PR n 105 [.agg [.str name, spD z2 sp], strsD z sens, strsD z' cats] = some (levelV sens cats name sp) := by
  obtain ⟨n, rfl⟩ : ∃ m, n = m + 1 := ⟨n - 1, by omega⟩
  have h1 := p46 (n := n) z z' hf (by omega)
  have h2 := e108 (n := n) z sens name (by have := hf.a; omega) (by have := hf.a; omega)
  rw [u105]
  unfold levelV
  cases hP : propV sens cats with
  | false =>
    rw [hP] at h1
    simp -implicitDefEqProofs [D105, h1]
  | true =>
    rw [hP] at h1
    have hcl := (propV_facts hP).2
    rw [if_pos rfl]
    generalize idxAt name sens 0 = s at h2 ⊢
    by_cases hs : s < 0
    · simp -implicitDefEqProofs [D105, h1, h2, hs]
    · have hl := l105_2 (n := n) (by omega) z' z2 cats hcl sp hsp s emptySto sp.length 0 n 0 (by omega) (by omega) (by omega)
      simp only [lv, Int.natCast_zero, List.drop_zero] at hl
      rw [if_neg hs]
      have hback : (accD s (lvlAcc cats sp 0)).handBack emptySto = some (accD s (lvlAcc cats sp 0)) := by
        unfold accD
        split <;> simp
      simp -implicitDefEqProofs [D105, h1, h2, hs, hl, hback]
theorem l132_0 {n : Nat} (s : Int) (j : Nat) (hj : j ≤ 1000) (b : Nat) (hb : b < 64) (σ : Sto) : ∀ (k a c m : Nat), a + k = b + 1 → k < m → c < 18446744073709551616 →
    iterJ 1 (L132_0 (cpJ PR n) (ciJ PR n) n (.int .i64 j) (.int .i64 0) (lv 0 0) (.int .i64 b)) m [.int .i64 a, lv s c] σ = some (.next 0 [.int .i64 ((j + 1 : Nat) : Int), .int .i64 0, lv s (bitsR c a k), lv 0 0] σ) := by
  intro k
  induction k with
  | zero =>
    intro a c m ha hm hc
    obtain ⟨m, rfl⟩ : ∃ q, m = q + 1 := ⟨m - 1, by omega⟩
    have h1 : ¬ ((a : Int) ≤ b) := by omega
    have hw : IntKind.i64.wrap ((j : Int) + 1) = (j : Int) + 1 := wrap_i64 (by omega) (by omega)
    refine iterJ_out ?_ (by decide)
    simp -implicitDefEqProofs [L132_0, B132_0, h1, hw, bitsR]
  | succ k ih =>
    intro a c m ha hm hc
    obtain ⟨m, rfl⟩ : ∃ q, m = q + 1 := ⟨m - 1, by omega⟩
    have h1 : ((a : Int) ≤ b) := by omega
    have h2 : ¬ ((a : Int) < 0) := by omega
    have hw : IntKind.i64.wrap ((a : Int) + 1) = (a : Int) + 1 := wrap_i64 (by omega) (by omega)
    have hu : IntKind.u64.wrap (a : Int) = a := wrap_u64 (by omega) (by omega)
    have hs := shl_one (by omega : a < 64)
    have ho := or_nat c (2 ^ a) hc (pow_lt (by omega))
    rw [iterJ_next' (vs' := [.int .i64 ((a + 1 : Nat) : Int), lv s (c ||| 2 ^ a)]) (σ' := σ), ih (a + 1) _ m (by omega) (by omega) (or_lt hc (pow_lt (by omega)))]
    · rfl
    · simp only [Int.one_mul] at hs
      simp -implicitDefEqProofs [L132_0, B132_0, h1, h2, hw, hu, IntKind.bits, hs, ho, -Int.natCast_pow]
theorem l132_2 {n : Nat} (hn : 1200 ≤ n) (z z' : Zs) (cats : List (List UInt8)) (hcl : cats.length ≤ 64) (name : List UInt8) (sp : List Sp) (hsp : sp.length ≤ 1000) (s : Int) (σ : Sto) : ∀ (k j m c : Nat), j + k = sp.length → k < m → c < 18446744073709551616 →
    iterJ 0 (L132_2 (cpJ PR n) (ciJ PR n) n (strsD z cats) (.agg [.str name, spD z' sp])) m [.int .i64 j, .int .i64 0, lv s c, lv 0 0] σ = some (.done (accD s (lvlAcc cats (sp.drop j) c)) σ) := by
  intro k
  induction k with
  | zero =>
    intro j m c hj hm hc
    obtain ⟨m, rfl⟩ : ∃ q, m = q + 1 := ⟨m - 1, by omega⟩
    have h1 : ¬ ((j : Int) < sp.length) := by omega
    refine iterJ_done ?_
    rw [List.drop_eq_nil_of_le (by omega)]
    simp -implicitDefEqProofs [L132_2, B132_2, h1, lvlAcc, accD]
  | succ k ih =>
    intro j m c hj hm hc
    obtain ⟨m, rfl⟩ : ∃ q, m = q + 1 := ⟨m - 1, by omega⟩
    have h1 : ((j : Int) < sp.length) := by omega
    obtain ⟨p, hp⟩ := get_some (by omega : j < sp.length)
    have f1 := e148 (n := n) z cats p.1 (by omega) (by omega)
    have f2 := e148 (n := n) z cats p.2 (by omega) (by omega)
    rw [drop_get hp, lvlAcc_cons]
    generalize hA : idxAt p.1 cats 0 = A at f1 ⊢
    generalize hB : idxAt p.2 cats 0 = B at f2 ⊢
    have hA' := idxAt_cases p.1 cats 0
    have hB' := idxAt_cases p.2 cats 0
    rw [hA] at hA'
    rw [hB] at hB'
    have main : ∀ b : Int, (if p.2 ≠ [] then B else A) = b → (b = -1 ∨ ∃ q : Nat, b = q ∧ q < 64) →
        iterJ 0 (L132_2 (cpJ PR n) (ciJ PR n) n (strsD z cats) (.agg [.str name, spD z' sp])) (m + 1) [.int .i64 j, .int .i64 0, lv s c, lv 0 0] σ =
        some (.done (accD s (if A < 0 ∨ b < 0 then (0, 11) else if b < A then (0, 18) else lvlAcc cats (sp.drop (j + 1)) (bitsR c A.toNat (b.toNat + 1 - A.toNat)))) σ) := by
      intro b hb hbc
      have step : L132_2 (cpJ PR n) (ciJ PR n) n (strsD z cats) (.agg [.str name, spD z' sp]) [.int .i64 j, .int .i64 0, lv s c, lv 0 0] σ =
          L132_1 (cpJ PR n) (ciJ PR n) n (.int .i64 j) (.int .i64 0) (lv s c) (lv 0 0) (.int .i64 A) [.int .i64 b] σ := by
        rw [← hb]
        by_cases h2 : p.2 = []
        · simp only [h2, ne_eq, not_true_eq_false, if_false]
          simp -implicitDefEqProofs [L132_2, B132_2, h1, hp, h2, f1]
        · simp only [h2, ne_eq, not_false_eq_true, if_true]
          simp -implicitDefEqProofs [L132_2, B132_2, h1, hp, h2, f1, f2]
      by_cases hA0 : A < 0
      · rw [if_pos (.inl hA0)]
        refine iterJ_done (step.trans ?_)
        simp -implicitDefEqProofs [L132_1, J132_1, hA0, accD]
      · by_cases hb0 : b < 0
        · rw [if_pos (.inr hb0)]
          refine iterJ_done (step.trans ?_)
          simp -implicitDefEqProofs [L132_1, J132_1, hA0, hb0, accD]
        · rw [if_neg (by omega)]
          by_cases hba : b < A
          · rw [if_pos hba]
            refine iterJ_done (step.trans ?_)
            simp -implicitDefEqProofs [L132_1, J132_1, hA0, hb0, hba, accD]
          · rw [if_neg hba]
            obtain ⟨q, rfl, hq⟩ : ∃ q : Nat, b = q ∧ q < 64 := hbc.resolve_left (by omega)
            obtain ⟨a, rfl⟩ : ∃ a : Nat, A = a := ⟨A.toNat, by omega⟩
            have hl := l132_0 (n := n) s j (by omega) q hq σ (q + 1 - a) a c n (by omega) (by omega) hc
            have : L132_1 (cpJ PR n) (ciJ PR n) n (.int .i64 j) (.int .i64 0) (lv s c) (lv 0 0) (.int .i64 a) [.int .i64 q] σ = iterJ 1 (L132_0 (cpJ PR n) (ciJ PR n) n (.int .i64 j) (.int .i64 0) (lv 0 0) (.int .i64 q)) n [.int .i64 a, lv s c] σ := by
              simp -implicitDefEqProofs [L132_1, J132_1, hA0, hb0, hba]
            rw [iterJ_next' ((step.trans this).trans hl), ih (j + 1) m _ (by omega) (by omega) (bitsR_lt hc (by omega))]
            simp
    refine main _ rfl ?_
    by_cases h2 : p.2 = []
    · simp only [h2, ne_eq, not_true_eq_false, if_false]
      rcases hA' with h | ⟨q, h, hq, -⟩
      · exact .inl h
      · exact .inr ⟨q, by simpa using h, by omega⟩
    · simp only [h2, ne_eq, not_false_eq_true, if_true]
      rcases hB' with h | ⟨q, h, hq, -⟩
      · exact .inl h
      · exact .inr ⟨q, by simpa using h, by omega⟩
theorem e132 {n : Nat} (hn : 20020 ≤ n) (z z' z2 : Zs) {sens cats : List (List UInt8)} (hf : Few sens cats) (name : List UInt8) (sp : List Sp) (hsp : sp.length ≤ 1000) :
    cpJ PR n 132 [.agg [.str name, spD z2 sp], strsD z sens, strsD z' cats] = some (levelV sens cats name sp) := by
  obtain ⟨n, rfl⟩ : ∃ m, n = m + 1 := ⟨n - 1, by omega⟩
  have h1 := p49 (n := n) z z' hf (by omega)
  have h2 := e148 (n := n) z sens name (by have := hf.a; omega) (by have := hf.a; omega)
  rw [u132]
  unfold levelV
  cases hP : propV sens cats with
  | false =>
    rw [hP] at h1
    simp -implicitDefEqProofs [D132, h1]
  | true =>
    rw [hP] at h1
    have hcl := (propV_facts hP).2
    rw [if_pos rfl]
    generalize idxAt name sens 0 = s at h2 ⊢
    by_cases hs : s < 0
    · simp -implicitDefEqProofs [D132, h1, h2, hs]
    · have hl := l132_2 (n := n) (by omega) z' z2 cats hcl name sp hsp s emptySto sp.length 0 n 0 (by omega) (by omega) (by omega)
      simp only [lv, Int.natCast_zero, List.drop_zero] at hl
      rw [if_neg hs]
      have hback : (accD s (lvlAcc cats sp 0)).handBack emptySto = some (accD s (lvlAcc cats sp 0)) := by
        unfold accD
        split <;> simp
      simp -implicitDefEqProofs [D132, h1, h2, hs, hl, hback]
end Go.Proofs.YthpccimmmfonjaaGreatDoor
namespace Go.Proofs.YthpccimmmfonjaaGreatDoor
set_option linter.unusedVariables false
set_option linter.unusedSimpArgs false
set_option maxRecDepth 20000
set_option maxHeartbeats 2000000
open Go
theorem lvlAcc_lt (cats : List (List UInt8)) (hcl : cats.length ≤ 64) : ∀ (sp : List Sp) (c : Nat), c < 18446744073709551616 → (lvlAcc cats sp c).1 < 18446744073709551616
  | [], c, h => h
  | p :: r, c, h => by
    rw [lvlAcc_cons]
    have hA := idxAt_cases p.1 cats 0
    have hB := idxAt_cases p.2 cats 0
    generalize idxAt p.1 cats 0 = A at hA ⊢
    have hb : (if p.2 ≠ [] then idxAt p.2 cats 0 else A) = -1 ∨ ∃ q : Nat, (if p.2 ≠ [] then idxAt p.2 cats 0 else A) = q ∧ q < 64 := by
      split
      · rcases hB with h | ⟨q, h, hq, -⟩
        · exact .inl h
        · exact .inr ⟨q, by simpa using h, by omega⟩
      · rcases hA with h | ⟨q, h, hq, -⟩
        · exact .inl h
        · exact .inr ⟨q, by simpa using h, by omega⟩
    generalize (if p.2 ≠ [] then idxAt p.2 cats 0 else A) = b at hb ⊢
    split
    · decide
    · split
      · decide
      · refine lvlAcc_lt cats hcl r _ (bitsR_lt h ?_)
        rcases hb with h | ⟨q, h, hq⟩ <;> omega
theorem levelV_form (sens cats : List (List UInt8)) (name : List UInt8) (sp : List Sp) : ∃ (s : Int) (c : Nat) (e : Int), c < 18446744073709551616 ∧ levelV sens cats name sp = lvE s c e := by
  unfold levelV
  split
  · rename_i hP
    split
    · exact ⟨0, 0, 11, by decide, rfl⟩
    · unfold accD
      split
      · exact ⟨_, _, 0, lvlAcc_lt cats (propV_facts hP).2 sp 0 (by decide), rfl⟩
      · exact ⟨0, 0, _, by decide, rfl⟩
  · exact ⟨0, 0, 2, by decide, rfl⟩
abbrev rgE (s : Int) (c : Nat) (s' : Int) (c' : Nat) (e : Int) : DVal := .tup [rg s c s' c', .int .i64 e]
def rangeRV (s : Int) (c : Nat) (e : Int) (s' : Int) (c' : Nat) (e' : Int) (no : Prop) [Decidable no] : DVal :=
  if e ≠ 0 then rgE 0 0 0 0 e else if no then rgE s c s c 0 else if e' ≠ 0 then rgE 0 0 0 0 e' else if domV s' c' s c = true then rgE s c s' c' 0 else rgE 0 0 0 0 18
section
variable {n : Nat} (hn : 20100 ≤ n) (z z' z1 z2 : Zs) {sens cats : List (List UInt8)} (hf : Few sens cats) (n1 n2 : List UInt8) (sp1 sp2 : List Sp) (h1 : sp1.length ≤ 1000) (h2 : sp2.length ≤ 1000)
  (s : Int) (c : Nat) (e : Int) (hc : c < 18446744073709551616) (l9001 : levelV sens cats n1 sp1 = lvE s c e) (s' : Int) (c' : Nat) (e' : Int) (hc' : c' < 18446744073709551616) (l9002 : levelV sens cats n2 sp2 = lvE s' c' e')
include hn hf h1 h2 hc l9001 hc' l9002
theorem e56 : cpJ PR n 56 [.agg [.str n1, spD z1 sp1, .str n2, spD z2 sp2], strsD z sens, strsD z' cats] = some (rangeRV s c e s' c' e' (n2 = [] ∧ sp2 = [])) := by
  obtain ⟨n, rfl⟩ : ∃ m, n = m + 1 := ⟨n - 1, by omega⟩
  have k1 := e105 (n := n) (by omega) z z' z1 hf n1 sp1 h1
  have k2 := e105 (n := n) (by omega) z z' z2 hf n2 sp2 h2
  have k3 := e60 (n := n) (by omega) s' c' hc' s c hc
  rw [l9001] at k1
  rw [l9002] at k2
  rw [u56]
  unfold rangeRV
  by_cases he : e = 0
  · subst he
    have hn2e : n2 = [] ∨ ∃ x xs, n2 = x :: xs := by
      cases n2 with
      | nil => exact .inl rfl
      | cons x xs => exact .inr ⟨x, xs, rfl⟩
    rcases hn2e with hn2 | ⟨x, xs, hn2⟩
    · subst hn2
      by_cases hs2 : sp2 = []
      · subst hs2
        simp -implicitDefEqProofs [D56, k1]
      · have hne : ¬ ((sp2.length : Int) = 0) := fun h => hs2 (List.eq_nil_of_length_eq_zero (by omega))
        by_cases he' : e' = 0
        · subst he'
          cases hd : domV s' c' s c <;> rw [hd] at k3 <;> simp -implicitDefEqProofs [D56, k1, k2, k3, hs2, hd]
        · simp -implicitDefEqProofs [D56, k1, k2, hs2, he']
    · subst hn2
      by_cases he' : e' = 0
      · subst he'
        cases hd : domV s' c' s c <;> rw [hd] at k3 <;> simp -implicitDefEqProofs [D56, k1, k2, k3, hd]
      · simp -implicitDefEqProofs [D56, k1, k2, he']
  · simp -implicitDefEqProofs [D56, k1, he]
theorem e99 : cpJ PR n 99 [.agg [.str n1, spD z1 sp1, .str n2, spD z2 sp2], strsD z sens, strsD z' cats] = some (rangeRV s c e s' c' e' (n2 = [] ∧ sp2 = [])) := by
  obtain ⟨n, rfl⟩ : ∃ m, n = m + 1 := ⟨n - 1, by omega⟩
  have k1 := e132 (n := n) (by omega) z z' z1 hf n1 sp1 h1
  have k2 := e132 (n := n) (by omega) z z' z2 hf n2 sp2 h2
  have k3 := e84 (n := n) (by omega) s' c' hc' s c hc
  have k4 := e84 (n := n) (by omega) s c hc s c hc
  rw [dom_refl] at k4
  rw [l9001] at k1
  rw [l9002] at k2
  rw [u99]
  unfold rangeRV
  by_cases he : e = 0
  · subst he
    have hn2e : n2 = [] ∨ ∃ x xs, n2 = x :: xs := by
      cases n2 with
      | nil => exact .inl rfl
      | cons x xs => exact .inr ⟨x, xs, rfl⟩
    rcases hn2e with hn2 | ⟨x, xs, hn2⟩
    · subst hn2
      by_cases hs2 : sp2 = []
      · subst hs2
        simp -implicitDefEqProofs [D99, L99_0, J99_0, k1, k4]
      · have hpos : 0 < sp2.length := List.length_pos_iff.2 hs2
        have hpos' : (0 : Int) < sp2.length := by omega
        by_cases he' : e' = 0
        · subst he'
          cases hd : domV s' c' s c <;> rw [hd] at k3 <;> simp -implicitDefEqProofs [D99, L99_0, J99_0, k1, k2, k3, hs2, hd, hpos, hpos']
        · simp -implicitDefEqProofs [D99, L99_0, J99_0, k1, k2, hs2, he', hpos, hpos']
    · subst hn2
      by_cases he' : e' = 0
      · subst he'
        cases hd : domV s' c' s c <;> rw [hd] at k3 <;> simp -implicitDefEqProofs [D99, L99_0, J99_0, k1, k2, k3, hd]
      · simp -implicitDefEqProofs [D99, L99_0, J99_0, k1, k2, he']
  · simp -implicitDefEqProofs [D99, k1, he]
end
theorem rangeRV_form (s : Int) (c : Nat) (e : Int) (s' : Int) (c' : Nat) (e' : Int) (no : Prop) [Decidable no] : ∃ (t : Int) (d : Nat) (t' : Int) (d' : Nat) (f : Int), rangeRV s c e s' c' e' no = rgE t d t' d' f := by
  unfold rangeRV
  split
  · exact ⟨_, _, _, _, _, rfl⟩
  · split
    · exact ⟨_, _, _, _, _, rfl⟩
    · split
      · exact ⟨_, _, _, _, _, rfl⟩
      · split
        · exact ⟨_, _, _, _, _, rfl⟩
        · exact ⟨_, _, _, _, _, rfl⟩
end Go.Proofs.YthpccimmmfonjaaGreatDoor
namespace Go.Proofs.YthpccimmmfonjaaGreatDoor
set_option linter.unusedVariables false
set_option linter.unusedSimpArgs false
set_option maxRecDepth 20000
set_option maxHeartbeats 2000000
open Go
theorem u54 (n : Nat) (xs : List DVal) : cpJ PR (n + 1) 54 xs = cutSem xs := by
  have e : PR 54 = some (.prim cutSem) := by kernel_rfl
  simp [cpJ, evJ, e, Function.comp_def]
theorem u135 (n : Nat) (xs : List DVal) : cpJ PR (n + 1) 135 xs = genSplitSem xs := by
  have e : PR 135 = some (.prim genSplitSem) := by kernel_rfl
  simp [cpJ, evJ, e, Function.comp_def]
theorem e54 {n : Nat} (hn : 1 ≤ n) (s : Bs) (hs : s.length ≤ 100000) (c : UInt8) : cpJ PR n 54 [.str s, .str [c]] = some (.tup [.str (Lib.cut s [c]).1, .str (Lib.cut s [c]).2.1, .bool (Lib.cut s [c]).2.2]) := by
  obtain ⟨n, rfl⟩ : ∃ m, n = m + 1 := ⟨n - 1, by omega⟩
  rw [u54]
  simp only [cutSem]
  rw [if_pos (by omega)]
theorem cut_len (s : Bs) (c : UInt8) : (Lib.cut s [c]).1.length ≤ s.length ∧ (Lib.cut s [c]).2.1.length ≤ s.length := by
  unfold Lib.cut
  split <;> simp <;> omega
theorem e103 {n : Nat} (hn : 2 ≤ n) (s : Bs) (hs : s.length ≤ 100000) : cpJ PR n 103 [.str s, .str [44]] = some (.slice false 0 1 ((Lib.splitN s [44] (Lib.count s [44] + 1)).map fun x => [.str x])) := by
  obtain ⟨n, rfl⟩ : ∃ m, n = m + 1 := ⟨n - 1, by omega⟩
  have h : cpJ PR n 135 [.str s, .str [44], .int .i64 0, .int .i64 (-1)] = some (.slice false 0 1 ((Lib.splitN s [44] (Lib.count s [44] + 1)).map fun x => [.str x])) := by
    obtain ⟨n, rfl⟩ : ∃ m, n = m + 1 := ⟨n - 1, by omega⟩
    rw [u135]
    simp only [genSplitSem]
    rw [if_pos ⟨by omega, by simp⟩]
  rw [u103]
  simp -implicitDefEqProofs [D103, h]
theorem e104 {n : Nat} (u : Bs) (hu : u.length ≤ 2000) (hn : 3000 ≤ n) : cpJ PR n 104 [.str u] =
    some (.tup [.agg [.str (Lib.cut u [46]).1, .str (Lib.cut u [46]).2.1], .bool (wordV (Lib.cut u [46]).1 && (!(Lib.cut u [46]).2.2 || wordV (Lib.cut u [46]).2.1))]) := by
  obtain ⟨n, rfl⟩ : ∃ m, n = m + 1 := ⟨n - 1, by omega⟩
  have h1 := e54 (n := n) (by omega) u (by omega) 46
  have hl := cut_len u 46
  have h2 := e102 (n := n) (Lib.cut u [46]).1 (by omega) (by omega)
  have h3 := e102 (n := n) (Lib.cut u [46]).2.1 (by omega) (by omega)
  rw [u104]
  generalize (Lib.cut u [46]).1 = a at h1 h2 ⊢
  generalize (Lib.cut u [46]).2.1 = b at h1 h3 ⊢
  generalize (Lib.cut u [46]).2.2 = q at h1 ⊢
  cases hq : q <;> cases ha : wordV a <;> cases hb : wordV b <;> rw [hq] at h1 <;> rw [ha] at h2 <;> rw [hb] at h3 <;> simp -implicitDefEqProofs [D104, h1, h2, h3]
theorem spanP_eq (u : Bs) : spanP u = if (wordV (Lib.cut u [46]).1 && (!(Lib.cut u [46]).2.2 || wordV (Lib.cut u [46]).2.1)) = true then some ((Lib.cut u [46]).1, (Lib.cut u [46]).2.1) else none := by
  unfold spanP
  simp only
  generalize (Lib.cut u [46]).1 = a
  generalize (Lib.cut u [46]).2.1 = b
  generalize (Lib.cut u [46]).2.2 = q
  cases q <;> cases wordV a <;> cases wordV b <;> simp
def spRow (p : Bs × Bs) : List DVal := [.str p.1, .str p.2]
theorem l55 {n : Nat} (hn : 5000 ≤ n) (name : Bs) (ps : List Bs) (hps : ps.length ≤ 3000) (hpl : ∀ p ∈ ps, p.length ≤ 2000) (σ : Sto) : ∀ (k j m : Nat) (es : List (List DVal)) (u : DVal), j + k = ps.length → k < m → es.length ≤ j →
    (∀ sp, mapO spanP (ps.drop j) = some sp → iterJ 0 (L55_0 (cpJ PR n) (ciJ PR n) n (.slice false 0 1 (ps.map fun x => [.str x])) (.int .i64 ps.length)) m [.int .i64 j, u, .agg [.str name, (apd σ 2 es).1], .agg [.str [], .nils]] (apd σ 2 es).2 =
      some (.done (.tup [.agg [.str name, (apd σ 2 (es ++ sp.map spRow)).1], .bool true]) (apd σ 2 (es ++ sp.map spRow)).2)) ∧
    (mapO spanP (ps.drop j) = none → ∃ es', iterJ 0 (L55_0 (cpJ PR n) (ciJ PR n) n (.slice false 0 1 (ps.map fun x => [.str x])) (.int .i64 ps.length)) m [.int .i64 j, u, .agg [.str name, (apd σ 2 es).1], .agg [.str [], .nils]] (apd σ 2 es).2 =
      some (.done (.tup [.agg [.str name, (apd σ 2 es').1], .bool false]) (apd σ 2 es').2)) := by
  intro k
  induction k with
  | zero =>
    intro j m es u hj hm hes
    obtain ⟨m, rfl⟩ : ∃ q, m = q + 1 := ⟨m - 1, by omega⟩
    have hj' : ¬ ((j : Int) < ps.length) := by omega
    rw [List.drop_eq_nil_of_le (by omega)]
    refine ⟨fun sp h => ?_, fun h => by simp [mapO] at h⟩
    simp only [mapO, Option.some.injEq] at h
    subst h
    refine iterJ_done ?_
    simp -implicitDefEqProofs [L55_0, B55_0, hj']
  | succ k ih =>
    intro j m es u hj hm hes
    obtain ⟨m, rfl⟩ : ∃ q, m = q + 1 := ⟨m - 1, by omega⟩
    have hj' : ((j : Int) < ps.length) := by omega
    obtain ⟨p, hp⟩ := get_some (by omega : j < ps.length)
    have hw : IntKind.i64.wrap ((j : Int) + 1) = (j : Int) + 1 := wrap_i64 (by omega) (by omega)
    have h1 := e104 (n := n) p (hpl p (List.mem_of_getElem? hp)) (by omega)
    have h2 := spanP_eq p
    rw [drop_get hp]
    generalize (Lib.cut p [46]).1 = a at h1 h2
    generalize (Lib.cut p [46]).2.1 = b at h1 h2
    generalize (wordV a && (!(Lib.cut p [46]).2.2 || wordV b)) = ok at h1 h2
    have ha := app_apd (σ := σ) (sz := 2) (own := 1) (es := es) (r := spRow (a, b)) (by omega)
    cases ok with
    | true =>
      rw [if_pos rfl] at h2
      have step : L55_0 (cpJ PR n) (ciJ PR n) n (.slice false 0 1 (ps.map fun x => [.str x])) (.int .i64 ps.length) [.int .i64 j, u, .agg [.str name, (apd σ 2 es).1], .agg [.str [], .nils]] (apd σ 2 es).2 =
          some (.next 0 [.int .i64 ((j + 1 : Nat) : Int), u, .agg [.str name, (apd σ 2 (es ++ [spRow (a, b)])).1], .agg [.str [], .nils]] (apd σ 2 (es ++ [spRow (a, b)])).2) := by
        simp only [spRow] at ha ⊢
        simp -implicitDefEqProofs [L55_0, B55_0, hj', hp, h1, ha, hw]
      obtain ⟨i1, i2⟩ := ih (j + 1) m (es ++ [spRow (a, b)]) u (by omega) (by omega) (by simp; omega)
      simp only [mapO, h2]
      rw [iterJ_next' step]
      refine ⟨fun sp h => ?_, fun h => ?_⟩
      · split at h
        · rename_i y ys e9001 e9002
          simp only [Option.some.injEq] at h e9001
          subst h e9001
          rw [i1 _ e9002]
          simp
        · cases h
      · split at h
        · cases h
        · rename_i hno
          refine i2 ?_
          cases hd : mapO spanP (ps.drop (j + 1)) with
          | none => rfl
          | some ys => exact absurd hd (hno _ ys rfl)
    | false =>
      rw [if_neg (by decide)] at h2
      have hm : mapO spanP (p :: ps.drop (j + 1)) = none := by simp only [mapO, h2]
      rw [hm]
      refine ⟨fun sp h => (by cases h), fun _ => ⟨es, iterJ_done ?_⟩⟩
      simp -implicitDefEqProofs [L55_0, B55_0, hj', hp, h1]
theorem splitN_len (s : Bs) : (Lib.splitN s [44] (Lib.count s [44] + 1)).length ≤ s.length + 1 ∧ ∀ p ∈ Lib.splitN s [44] (Lib.count s [44] + 1), p.length ≤ s.length := by
  obtain ⟨p, r, rfl, hp, hr⟩ := split_exists 44 s
  rw [split_join hp hr]
  have h1 := joinC_len (c := 44) (r := r) (p := p)
  refine ⟨by simp; omega, fun q hq => ?_⟩
  rcases List.mem_cons.1 hq with rfl | hq
  · simp [joinC]
  · have : ∀ {r : List Bs}, q ∈ r → q.length ≤ (r.flatMap fun x => (44 : UInt8) :: x).length := by
      intro r
      induction r with
      | nil => intro h; simp at h
      | cons x r ih =>
        intro h
        rcases List.mem_cons.1 h with rfl | h
        · simp only [List.flatMap_cons, List.length_append, List.length_cons]; omega
        · have := ih h; simp only [List.flatMap_cons, List.length_append, List.length_cons]; omega
    have := this hq
    simp only [joinC, List.length_append]; omega
theorem e55 {n : Nat} (u : Bs) (hu : u.length ≤ 1500) (hn : 6000 ≤ n) :
    (∃ l, parsedP u = some l ∧ cpJ PR n 55 [.str u] = some (.tup [ltD l.1 (l.2.map spRow), .bool true])) ∨
    (parsedP u = none ∧ ∃ nm0 rows, cpJ PR n 55 [.str u] = some (.tup [ltD nm0 rows, .bool false])) := by
  obtain ⟨n, rfl⟩ : ∃ m, n = m + 1 := ⟨n - 1, by omega⟩
  have h1 := e54 (n := n) (by omega) u (by omega) 58
  have hl := cut_len u 58
  have h2 := e102 (n := n) (Lib.cut u [58]).1 (by omega) (by omega)
  have h3 := e103 (n := n) (by omega) (Lib.cut u [58]).2.1 (by omega)
  have hs := splitN_len (Lib.cut u [58]).2.1
  rw [u55]
  unfold parsedP
  simp only
  generalize (Lib.cut u [58]).1 = a at h1 h2 hl ⊢
  generalize (Lib.cut u [58]).2.1 = b at h1 h3 hl hs ⊢
  generalize (Lib.cut u [58]).2.2 = q at h1 ⊢
  cases ha : wordV a with
  | false =>
    rw [ha] at h2
    refine .inr ⟨by simp, a, [], ?_⟩
    simp -implicitDefEqProofs [D55, h1, h2, slD_nil]
  | true =>
    rw [ha] at h2
    cases q with
    | false =>
      refine .inl ⟨(a, []), by simp, ?_⟩
      simp -implicitDefEqProofs [D55, h1, h2, slD_nil]
    | true =>
      generalize Lib.splitN b [44] (Lib.count b [44] + 1) = ps at h3 hs ⊢
      obtain ⟨i1, i2⟩ := l55 (n := n) (by omega) a ps (by omega) (fun p hp => by have := hs.2 p hp; omega) emptySto ps.length 0 n [] (.bool false) (by omega) (by omega) (by simp)
      simp only [List.drop_zero, Int.natCast_zero, List.nil_append] at i1 i2
      have e : apd emptySto 2 [] = (.nils, emptySto) := rfl
      rw [e] at i1 i2
      cases hm : mapO spanP ps with
      | some sp =>
        have := i1 sp hm
        refine .inl ⟨(a, sp), by simp, ?_⟩
        simp -implicitDefEqProofs [D55, h1, h2, h3, this]
      | none =>
        obtain ⟨es', this⟩ := i2 hm
        refine .inr ⟨by simp, a, es', ?_⟩
        simp -implicitDefEqProofs [D55, h1, h2, h3, this]
end Go.Proofs.YthpccimmmfonjaaGreatDoor
namespace Go.Proofs.YthpccimmmfonjaaGreatDoor
set_option linter.unusedVariables false
set_option linter.unusedSimpArgs false
set_option maxRecDepth 20000
set_option maxHeartbeats 4000000
open Go
theorem l150 {n : Nat} (hn : 2 ≤ n) (s : Bs) (hs : s.length ≤ 100000) (σ : Sto) : ∀ (k i m : Nat), i + k = s.length → k < m →
    iterJ 0 (L150_0 (cpJ PR n) (ciJ PR n) n (.str s)) m [.int .i64 i] σ = some (.done (.int .i64 ((i + (tw (s.drop i)).length : Nat) : Int)) σ) := by
  intro k
  induction k with
  | zero =>
    intro i m hi hm
    obtain ⟨m, rfl⟩ : ∃ q, m = q + 1 := ⟨m - 1, by omega⟩
    have hi' : ¬ ((i : Int) < s.length) := by omega
    refine iterJ_done ?_
    rw [List.drop_eq_nil_of_le (by omega)]
    simp -implicitDefEqProofs [L150_0, B150_0, hi', tw]
  | succ k ih =>
    intro i m hi hm
    obtain ⟨m, rfl⟩ : ∃ q, m = q + 1 := ⟨m - 1, by omega⟩
    have hi' : ((i : Int) < s.length) := by omega
    obtain ⟨x, hx⟩ := get_some (by omega : i < s.length)
    have hw : IntKind.i64.wrap ((i : Int) + 1) = (i : Int) + 1 := wrap_i64 (by omega) (by omega)
    have he := e149 (n := n) (by omega) x.toNat
    rw [drop_get hx]
    cases hb : chV x.toNat with
    | true =>
      rw [hb] at he
      rw [iterJ_next' (vs' := [.int .i64 ((i + 1 : Nat) : Int)]) (σ' := σ) (by simp -implicitDefEqProofs [L150_0, B150_0, hi', hx, he, hw]), ih (i + 1) m (by omega) (by omega)]
      have : tw (x :: s.drop (i + 1)) = x :: tw (s.drop (i + 1)) := by simp [tw, isL, hb]
      rw [this]
      simp only [List.length_cons]
      congr 4
      omega
    | false =>
      rw [hb] at he
      refine iterJ_done ?_
      have : tw (x :: s.drop (i + 1)) = [] := by simp [tw, isL, hb]
      rw [this]
      simp -implicitDefEqProofs [L150_0, B150_0, hi', hx, he]
theorem take_tw (u : Bs) : u.take (tw u).length = tw u ∧ u.drop (tw u).length = dw u := by
  have e := tw_dw u
  generalize tw u = a at e ⊢
  generalize dw u = b at e ⊢
  subst e
  simp
theorem e150 {n : Nat} (s : Bs) (hs : s.length ≤ 2000) (hn : 3000 ≤ n) (a : Nat) (ha : a ≤ s.length) :
    ∃ b : Nat, cpJ PR n 150 [.str s, .int .i64 a] = some (.int .i64 b) ∧ a ≤ b ∧ b ≤ s.length ∧ (s.drop a).take (b - a) = tw (s.drop a) ∧ s.drop b = dw (s.drop a) ∧ (b = a ↔ tw (s.drop a) = []) := by
  obtain ⟨n, rfl⟩ : ∃ m, n = m + 1 := ⟨n - 1, by omega⟩
  have h := l150 (n := n) (by omega) s (by omega) emptySto (s.length - a) a n (by omega) (by omega)
  have e := tw_dw (s.drop a)
  have hlen : (tw (s.drop a)).length + (dw (s.drop a)).length = s.length - a := by rw [← List.length_append, e, List.length_drop]
  refine ⟨a + (tw (s.drop a)).length, ?_, by omega, by omega, ?_, ?_, ?_⟩
  · rw [u150]
    simp -implicitDefEqProofs only [D150, h, finP_done, DVal.handBack, DVal.sealVal, DVal.sealCell]
  · rw [show a + (tw (s.drop a)).length - a = (tw (s.drop a)).length by omega]
    exact (take_tw _).1
  · rw [← List.drop_drop]
    exact (take_tw _).2
  · constructor
    · intro h; exact List.eq_nil_of_length_eq_zero (by omega)
    · intro h; rw [h]; simp
theorem slc_ij {s : Bs} {a b : Nat} (h1 : a ≤ b) (h2 : b ≤ s.length) : slcSSem true true [.str s, .int .i64 a, .int .i64 b] = some (.str ((s.drop a).take (b - a))) := by
  have e9001 : (0 : Int) ≤ b ∧ (b : Int) ≤ s.length := by omega
  have e9002 : (0 : Int) ≤ a ∧ (a : Int) ≤ (b : Int) := by omega
  simp only [slcSSem, bounds, e9001, and_self, if_true, Int.toNat_natCast, e9002, Option.map_some]
theorem u8_eq (c d : UInt8) : (((c.toNat : Nat) : Int) == ((d.toNat : Nat) : Int)) = decide (c = d) := by
  by_cases h : c = d
  · subst h; simp
  · have : ¬ (((c.toNat : Nat) : Int) = ((d.toNat : Nat) : Int)) := fun e => h (UInt8.toNat_inj.1 (by omega))
    simp [h, this]
theorem step64a {n : Nat} (hn : 3000 ≤ n) (s : Bs) (hs : s.length ≤ 2000) (name : Bs) (σ : Sto) (k i0 : Nat) (hlt : k < s.length) (c : UInt8) (hc : s[k]? = some c) :
    (c ≠ 58 → L131_1 (cpJ PR n) (ciJ PR n) n (.str s) [.int .i64 k, .bool false, .int .i64 0, .int .i64 i0, .agg [.str name, (apd σ 2 []).1], .agg [.str [], .nils]] (apd σ 2 []).2 = some (.done (.tup [.agg [.str name, (apd σ 2 []).1], .int .i64 k, .bool true]) (apd σ 2 []).2)) ∧
    (c = 58 → ∀ u, s.drop (k + 1) = u →
      (tw u = [] → ∃ b : Nat, L131_1 (cpJ PR n) (ciJ PR n) n (.str s) [.int .i64 k, .bool false, .int .i64 0, .int .i64 i0, .agg [.str name, (apd σ 2 []).1], .agg [.str [], .nils]] (apd σ 2 []).2 = some (.done (.tup [.agg [.str name, (apd σ 2 []).1], .int .i64 b, .bool false]) (apd σ 2 []).2)) ∧
      (tw u ≠ [] → (∀ v, dw u ≠ 46 :: v) → ∃ b i1 : Nat, k < b ∧ b ≤ s.length ∧ s.drop b = dw u ∧ L131_1 (cpJ PR n) (ciJ PR n) n (.str s) [.int .i64 k, .bool false, .int .i64 0, .int .i64 i0, .agg [.str name, (apd σ 2 []).1], .agg [.str [], .nils]] (apd σ 2 []).2 = some (.next 0 [.int .i64 b, .bool false, .int .i64 0, .int .i64 i1, .agg [.str name, (apd σ 2 ([] ++ [spRow (tw u, [])])).1], .agg [.str [], .nils]] (apd σ 2 ([] ++ [spRow (tw u, [])])).2)) ∧
      (tw u ≠ [] → ∀ v, dw u = 46 :: v →
        (tw v = [] → ∃ b : Nat, L131_1 (cpJ PR n) (ciJ PR n) n (.str s) [.int .i64 k, .bool false, .int .i64 0, .int .i64 i0, .agg [.str name, (apd σ 2 []).1], .agg [.str [], .nils]] (apd σ 2 []).2 = some (.done (.tup [.agg [.str name, (apd σ 2 []).1], .int .i64 b, .bool false]) (apd σ 2 []).2)) ∧
        (tw v ≠ [] → ∃ b i1 : Nat, k < b ∧ b ≤ s.length ∧ s.drop b = dw v ∧ L131_1 (cpJ PR n) (ciJ PR n) n (.str s) [.int .i64 k, .bool false, .int .i64 0, .int .i64 i0, .agg [.str name, (apd σ 2 []).1], .agg [.str [], .nils]] (apd σ 2 []).2 = some (.next 0 [.int .i64 b, .bool false, .int .i64 0, .int .i64 i1, .agg [.str name, (apd σ 2 ([] ++ [spRow (tw u, tw v)])).1], .agg [.str [], .nils]] (apd σ 2 ([] ++ [spRow (tw u, tw v)])).2)))) := by
  have hlt' : ((k : Int) < s.length) := by omega
  have cq := u8_eq c 58
  have tq : (((58 : UInt8).toNat : Nat) : Int) = 58 := by decide
  rw [tq] at cq
  constructor
  · intro hne0
    have cq' : ((c.toNat : Int) == 58) = false := by rw [cq]; simp [hne0]
    have cq2 : ¬ ((c.toNat : Int) = 58) := by simpa using cq'
    simp -implicitDefEqProofs [L131_1, B131_1, hlt', hc, cq', cq2, apd]
  · rintro rfl u hu
    obtain ⟨k1, hk1, hw1⟩ : ∃ k1 : Nat, k1 = k + 1 ∧ IntKind.i64.wrap ((k : Int) + 1) = (k1 : Int) := ⟨k + 1, rfl, by rw [wrap_i64 (by omega) (by omega)]; rfl⟩
    have hu1 : s.drop k1 = u := by rw [hk1]; exact hu
    obtain ⟨b, w1, w2, w3, w4, w5, w6⟩ := e150 (n := n) s hs hn k1 (by omega)
    rw [hu1] at w4 w5 w6
    have hsl := slc_ij w2 w3
    rw [hu1, w4] at hsl
    refine ⟨fun hf => ⟨b, ?_⟩, fun hf hno => ?_, fun hf v hv => ?_⟩
    · have hbe : ((b : Int) == (k1 : Int)) = true := by rw [w6.2 hf]; simp
      simp -implicitDefEqProofs [L131_1, B131_1, hlt', hc, hw1, w1, hsl, hbe, apd]
    · have hbne : b ≠ k1 := fun h => hf (w6.1 h)
      have hbe : ((b : Int) == (k1 : Int)) = false := by simp; omega
      have ha := app_apd (σ := σ) (sz := 2) (own := 1) (es := []) (r := spRow (tw u, [])) (by simp; try omega)
      refine ⟨b, k1, by omega, w3, w5, ?_⟩
      by_cases hbl : b < s.length
      · have hbl' : ((b : Int) < s.length) := by omega
        obtain ⟨d, hd⟩ := get_some hbl
        have hd46 : d ≠ 46 := fun h => by subst h; exact hno (s.drop (b + 1)) (by rw [← w5, drop_get hd])
        have dq := u8_eq d 46
        have tq2 : (((46 : UInt8).toNat : Nat) : Int) = 46 := by decide
        rw [tq2] at dq
        have dq' : ((d.toNat : Int) == 46) = false := by rw [dq]; simp [hd46]
        have dq2 : ¬ ((d.toNat : Int) = 46) := by simpa using dq'
        simp only [spRow, apd, List.nil_append] at ha ⊢
        simp -implicitDefEqProofs [L131_1, B131_1, L131_0, J131_0, hlt', hc, hw1, w1, hsl, hbe, hbl', hd, dq', dq2, ha, apd]
      · have hbl' : ¬ ((b : Int) < s.length) := by omega
        simp only [spRow, apd, List.nil_append] at ha ⊢
        simp -implicitDefEqProofs [L131_1, B131_1, L131_0, J131_0, hlt', hc, hw1, w1, hsl, hbe, hbl', ha, apd]
    · have hbne : b ≠ k1 := fun h => hf (w6.1 h)
      have hbe : ((b : Int) == (k1 : Int)) = false := by simp; omega
      have hbl : b < s.length := by
        refine Nat.lt_of_not_le fun h => ?_
        rw [List.drop_eq_nil_of_le h, hv] at w5
        cases w5
      have hbl' : ((b : Int) < s.length) := by omega
      have hd : s[b]? = some 46 := by
        have : (s.drop b)[0]? = some 46 := by rw [w5, hv]; rfl
        simpa using this
      obtain ⟨k2, hk2, hw2⟩ : ∃ k2 : Nat, k2 = b + 1 ∧ IntKind.i64.wrap ((b : Int) + 1) = (k2 : Int) := ⟨b + 1, rfl, by rw [wrap_i64 (by omega) (by omega)]; rfl⟩
      have hv1 : s.drop k2 = v := by
        have := drop_get hd
        rw [w5, hv] at this
        rw [hk2]
        exact (List.cons.inj this).2.symm
      obtain ⟨b2, x1, x2, x3, x4, x5, x6⟩ := e150 (n := n) s hs hn k2 (by omega)
      rw [hv1] at x4 x5 x6
      have hsl2 := slc_ij x2 x3
      rw [hv1, x4] at hsl2
      refine ⟨fun ht => ⟨b2, ?_⟩, fun ht => ⟨b2, k2, by omega, x3, x5, ?_⟩⟩
      · have hbe2 : ((b2 : Int) == (k2 : Int)) = true := by rw [x6.2 ht]; simp
        simp -implicitDefEqProofs [L131_1, B131_1, L131_0, J131_0, hlt', hc, hw1, w1, hsl, hbe, hbl', hd, hw2, x1, hsl2, hbe2, apd]
      · have hbne2 : b2 ≠ k2 := fun h => ht (x6.1 h)
        have hbe2 : ((b2 : Int) == (k2 : Int)) = false := by simp; omega
        have ha := app_apd (σ := σ) (sz := 2) (own := 1) (es := []) (r := spRow (tw u, tw v)) (by simp; try omega)
        simp only [spRow, apd, List.nil_append] at ha ⊢
        simp -implicitDefEqProofs [L131_1, B131_1, L131_0, J131_0, hlt', hc, hw1, w1, hsl, hbe, hbl', hd, hw2, x1, hsl2, hbe2, ha, apd]
theorem step64b {n : Nat} (hn : 3000 ≤ n) (s : Bs) (hs : s.length ≤ 2000) (name : Bs) (σ : Sto) (k i0 : Nat) (es : List (List DVal)) (hne : es ≠ []) (hes : es.length ≤ 2000) (hlt : k < s.length) (c : UInt8) (hc : s[k]? = some c) :
    (c ≠ 44 → L131_1 (cpJ PR n) (ciJ PR n) n (.str s) [.int .i64 k, .bool false, .int .i64 0, .int .i64 i0, .agg [.str name, (apd σ 2 es).1], .agg [.str [], .nils]] (apd σ 2 es).2 = some (.done (.tup [.agg [.str name, (apd σ 2 es).1], .int .i64 k, .bool true]) (apd σ 2 es).2)) ∧
    (c = 44 → ∀ u, s.drop (k + 1) = u →
      (tw u = [] → ∃ b : Nat, L131_1 (cpJ PR n) (ciJ PR n) n (.str s) [.int .i64 k, .bool false, .int .i64 0, .int .i64 i0, .agg [.str name, (apd σ 2 es).1], .agg [.str [], .nils]] (apd σ 2 es).2 = some (.done (.tup [.agg [.str name, (apd σ 2 es).1], .int .i64 b, .bool false]) (apd σ 2 es).2)) ∧
      (tw u ≠ [] → (∀ v, dw u ≠ 46 :: v) → ∃ b i1 : Nat, k < b ∧ b ≤ s.length ∧ s.drop b = dw u ∧ L131_1 (cpJ PR n) (ciJ PR n) n (.str s) [.int .i64 k, .bool false, .int .i64 0, .int .i64 i0, .agg [.str name, (apd σ 2 es).1], .agg [.str [], .nils]] (apd σ 2 es).2 = some (.next 0 [.int .i64 b, .bool false, .int .i64 0, .int .i64 i1, .agg [.str name, (apd σ 2 (es ++ [spRow (tw u, [])])).1], .agg [.str [], .nils]] (apd σ 2 (es ++ [spRow (tw u, [])])).2)) ∧
      (tw u ≠ [] → ∀ v, dw u = 46 :: v →
        (tw v = [] → ∃ b : Nat, L131_1 (cpJ PR n) (ciJ PR n) n (.str s) [.int .i64 k, .bool false, .int .i64 0, .int .i64 i0, .agg [.str name, (apd σ 2 es).1], .agg [.str [], .nils]] (apd σ 2 es).2 = some (.done (.tup [.agg [.str name, (apd σ 2 es).1], .int .i64 b, .bool false]) (apd σ 2 es).2)) ∧
        (tw v ≠ [] → ∃ b i1 : Nat, k < b ∧ b ≤ s.length ∧ s.drop b = dw v ∧ L131_1 (cpJ PR n) (ciJ PR n) n (.str s) [.int .i64 k, .bool false, .int .i64 0, .int .i64 i0, .agg [.str name, (apd σ 2 es).1], .agg [.str [], .nils]] (apd σ 2 es).2 = some (.next 0 [.int .i64 b, .bool false, .int .i64 0, .int .i64 i1, .agg [.str name, (apd σ 2 (es ++ [spRow (tw u, tw v)])).1], .agg [.str [], .nils]] (apd σ 2 (es ++ [spRow (tw u, tw v)])).2)))) := by
  have hlt' : ((k : Int) < s.length) := by omega
  have cq := u8_eq c 44
  have tq : (((44 : UInt8).toNat : Nat) : Int) = 44 := by decide
  rw [tq] at cq
  have hl0 : ¬ es.length = 0 := by have := List.length_pos_iff.2 hne; omega
  have hpos : 0 < es.length := List.length_pos_iff.2 hne
  have hposI : (0 : Int) < es.length := by omega
  have q1 : ((es.length : Int) == 0) = false := by simp [hne]
  constructor
  · intro hne0
    have cq' : ((c.toNat : Int) == 44) = false := by rw [cq]; simp [hne0]
    have cq2 : ¬ ((c.toNat : Int) = 44) := by simpa using cq'
    simp -implicitDefEqProofs [L131_1, B131_1, hlt', hc, cq', cq2, hne, hl0, hpos, hposI, q1]
  · rintro rfl u hu
    obtain ⟨k1, hk1, hw1⟩ : ∃ k1 : Nat, k1 = k + 1 ∧ IntKind.i64.wrap ((k : Int) + 1) = (k1 : Int) := ⟨k + 1, rfl, by rw [wrap_i64 (by omega) (by omega)]; rfl⟩
    have hu1 : s.drop k1 = u := by rw [hk1]; exact hu
    obtain ⟨b, w1, w2, w3, w4, w5, w6⟩ := e150 (n := n) s hs hn k1 (by omega)
    rw [hu1] at w4 w5 w6
    have hsl := slc_ij w2 w3
    rw [hu1, w4] at hsl
    refine ⟨fun hf => ⟨b, ?_⟩, fun hf hno => ?_, fun hf v hv => ?_⟩
    · have hbe : ((b : Int) == (k1 : Int)) = true := by rw [w6.2 hf]; simp
      simp -implicitDefEqProofs [L131_1, B131_1, hlt', hc, hw1, w1, hsl, hbe, hne, hl0, hpos, hposI, q1]
    · have hbne : b ≠ k1 := fun h => hf (w6.1 h)
      have hbe : ((b : Int) == (k1 : Int)) = false := by simp; omega
      have ha := app_apd (σ := σ) (sz := 2) (own := 1) (es := es) (r := spRow (tw u, [])) (by simp; try omega)
      refine ⟨b, k1, by omega, w3, w5, ?_⟩
      by_cases hbl : b < s.length
      · have hbl' : ((b : Int) < s.length) := by omega
        obtain ⟨d, hd⟩ := get_some hbl
        have hd46 : d ≠ 46 := fun h => by subst h; exact hno (s.drop (b + 1)) (by rw [← w5, drop_get hd])
        have dq := u8_eq d 46
        have tq2 : (((46 : UInt8).toNat : Nat) : Int) = 46 := by decide
        rw [tq2] at dq
        have dq' : ((d.toNat : Int) == 46) = false := by rw [dq]; simp [hd46]
        have dq2 : ¬ ((d.toNat : Int) = 46) := by simpa using dq'
        simp only [spRow] at ha ⊢
        simp -implicitDefEqProofs [L131_1, B131_1, L131_0, J131_0, hlt', hc, hw1, w1, hsl, hbe, hbl', hd, dq', dq2, ha, hne, hl0, hpos, hposI, q1]
      · have hbl' : ¬ ((b : Int) < s.length) := by omega
        simp only [spRow] at ha ⊢
        simp -implicitDefEqProofs [L131_1, B131_1, L131_0, J131_0, hlt', hc, hw1, w1, hsl, hbe, hbl', ha, hne, hl0, hpos, hposI, q1]
    · have hbne : b ≠ k1 := fun h => hf (w6.1 h)
      have hbe : ((b : Int) == (k1 : Int)) = false := by simp; omega
      have hbl : b < s.length := by
        refine Nat.lt_of_not_le fun h => ?_
        rw [List.drop_eq_nil_of_le h, hv] at w5
        cases w5
      have hbl' : ((b : Int) < s.length) := by omega
      have hd : s[b]? = some 46 := by
        have : (s.drop b)[0]? = some 46 := by rw [w5, hv]; rfl
        simpa using this
      obtain ⟨k2, hk2, hw2⟩ : ∃ k2 : Nat, k2 = b + 1 ∧ IntKind.i64.wrap ((b : Int) + 1) = (k2 : Int) := ⟨b + 1, rfl, by rw [wrap_i64 (by omega) (by omega)]; rfl⟩
      have hv1 : s.drop k2 = v := by
        have := drop_get hd
        rw [w5, hv] at this
        rw [hk2]
        exact (List.cons.inj this).2.symm
      obtain ⟨b2, x1, x2, x3, x4, x5, x6⟩ := e150 (n := n) s hs hn k2 (by omega)
      rw [hv1] at x4 x5 x6
      have hsl2 := slc_ij x2 x3
      rw [hv1, x4] at hsl2
      refine ⟨fun ht => ⟨b2, ?_⟩, fun ht => ⟨b2, k2, by omega, x3, x5, ?_⟩⟩
      · have hbe2 : ((b2 : Int) == (k2 : Int)) = true := by rw [x6.2 ht]; simp
        simp -implicitDefEqProofs [L131_1, B131_1, L131_0, J131_0, hlt', hc, hw1, w1, hsl, hbe, hbl', hd, hw2, x1, hsl2, hbe2, hne, hl0, hpos, hposI, q1]
      · have hbne2 : b2 ≠ k2 := fun h => ht (x6.1 h)
        have hbe2 : ((b2 : Int) == (k2 : Int)) = false := by simp; omega
        have ha := app_apd (σ := σ) (sz := 2) (own := 1) (es := es) (r := spRow (tw u, tw v)) (by simp; try omega)
        simp only [spRow] at ha ⊢
        simp -implicitDefEqProofs [L131_1, B131_1, L131_0, J131_0, hlt', hc, hw1, w1, hsl, hbe, hbl', hd, hw2, x1, hsl2, hbe2, ha, hne, hl0, hpos, hposI, q1]
theorem spansR_cons (k : Nat) (first : Bool) (c : UInt8) (u : Bs) : spansR (k + 1) first (c :: u) = if c = sepB first then
        if tw u = [] then none
        else match dw u with
          | 46 :: v => if tw v = [] then none else (spansR k false (dw v)).map fun x => ((tw u, tw v) :: x.1, x.2)
          | w => (spansR k false w).map fun x => ((tw u, []) :: x.1, x.2)
      else some ([], c :: u) := rfl
abbrev st64 (k i0 : Nat) (name : Bs) (d : DVal) : List DVal := [.int .i64 k, .bool false, .int .i64 0, .int .i64 i0, .agg [.str name, d], .agg [.str [], .nils]]
def Res64 (s name : Bs) (σ : Sto) (o : Option (List (Bs × Bs) × Bs)) (es : List (List DVal)) (r : Option Out) : Prop :=
  match o with
  | some (sp, rest) => r = some (.done (.tup [.agg [.str name, (apd σ 2 (es ++ sp.map spRow)).1], .int .i64 ((s.length - rest.length : Nat) : Int), .bool true]) (apd σ 2 (es ++ sp.map spRow)).2) ∧ rest.length ≤ s.length ∧ s.drop (s.length - rest.length) = rest
  | none => ∃ (es' : List (List DVal)) (k' : Nat), r = some (.done (.tup [.agg [.str name, (apd σ 2 es').1], .int .i64 k', .bool false]) (apd σ 2 es').2)
theorem rest_here {s : Bs} {k : Nat} (hk : k ≤ s.length) : (s.drop k).length ≤ s.length ∧ s.length - (s.drop k).length = k := by
  rw [List.length_drop]; omega
theorem res64_map {s name : Bs} {σ : Sto} {o : Option (List (Bs × Bs) × Bs)} {es : List (List DVal)} {r : Option Out} (p : Bs × Bs) (h : Res64 s name σ o (es ++ [spRow p]) r) : Res64 s name σ (o.map fun x => (p :: x.1, x.2)) es r := by
  cases o with
  | none => exact h
  | some x => obtain ⟨sp, rest⟩ := x; simpa [Res64] using h
theorem l131b {n : Nat} (hn : 3000 ≤ n) (s : Bs) (hs : s.length ≤ 2000) (name : Bs) (σ : Sto) : ∀ (K k m i0 : Nat) (es : List (List DVal)), es ≠ [] → k ≤ s.length → s.length - k < K → K ≤ m → es.length ≤ k →
    Res64 s name σ (spansR K false (s.drop k)) es (iterJ 0 (L131_1 (cpJ PR n) (ciJ PR n) n (.str s)) m (st64 k i0 name (apd σ 2 es).1) (apd σ 2 es).2) := by
  intro K
  induction K with
  | zero => intro k m i0 es _ h1 h2; omega
  | succ K ih =>
    intro k m i0 es hne hk hK hm hes
    obtain ⟨m, rfl⟩ : ∃ q, m = q + 1 := ⟨m - 1, by omega⟩
    by_cases hlt : k < s.length
    · obtain ⟨c, hc⟩ := get_some hlt
      obtain ⟨a1, a2⟩ := step64b (n := n) hn s hs name σ k i0 es hne (by omega) hlt c hc
      have hdrop := drop_get hc
      by_cases hsep : c = 44
      · obtain ⟨b1, b2, b3⟩ := a2 hsep _ rfl
        rw [hdrop, spansR_cons, if_pos (by rw [hsep]; rfl)]
        by_cases hf : tw (s.drop (k + 1)) = []
        · rw [if_pos hf]
          obtain ⟨b, hb⟩ := b1 hf
          exact ⟨es, b, iterJ_done hb⟩
        · rw [if_neg hf]
          split
          · rename_i v hv
            obtain ⟨c1, c2⟩ := b3 hf v hv
            by_cases ht : tw v = []
            · rw [if_pos ht]
              obtain ⟨b, hb⟩ := c1 ht
              exact ⟨es, b, iterJ_done hb⟩
            · rw [if_neg ht]
              obtain ⟨b, i1, d1, d2, d3, d4⟩ := c2 ht
              rw [iterJ_next' d4, ← d3]
              exact res64_map _ (ih b m i1 _ (by simp) d2 (by omega) (by omega) (by simp; omega))
          · rename_i w hno
            obtain ⟨b, i1, d1, d2, d3, d4⟩ := b2 hf (fun v hv => hno v hv)
            rw [iterJ_next' d4, ← d3]
            exact res64_map _ (ih b m i1 _ (by simp) d2 (by omega) (by omega) (by simp; omega))
      · rw [hdrop, spansR_cons, if_neg (show ¬ c = sepB false from hsep), ← hdrop]
        obtain ⟨r1, r2⟩ := rest_here hk
        refine ⟨?_, r1, by rw [r2]⟩
        rw [iterJ_done (a1 hsep), r2]
        simp
    · have hnil : s.drop k = [] := List.drop_eq_nil_of_le (by omega)
      have hlt' : ¬ ((k : Int) < s.length) := by omega
      rw [hnil]
      refine ⟨?_, by simp, by simp⟩
      have : L131_1 (cpJ PR n) (ciJ PR n) n (.str s) (st64 k i0 name (apd σ 2 es).1) (apd σ 2 es).2 = some (.done (.tup [.agg [.str name, (apd σ 2 es).1], .int .i64 k, .bool true]) (apd σ 2 es).2) := by
        simp -implicitDefEqProofs [L131_1, B131_1, hlt']
      rw [iterJ_done this]
      have e : k = s.length := by omega
      simp [e]
theorem l131a {n : Nat} (hn : 3000 ≤ n) (s : Bs) (hs : s.length ≤ 2000) (name : Bs) (σ : Sto) (K k m i0 : Nat) (hk : k ≤ s.length) (hK : s.length - k < K) (hm : K ≤ m) (hk0 : 0 < k) :
    Res64 s name σ (spansR K true (s.drop k)) [] (iterJ 0 (L131_1 (cpJ PR n) (ciJ PR n) n (.str s)) m (st64 k i0 name (apd σ 2 []).1) (apd σ 2 []).2) := by
  obtain ⟨K, rfl⟩ : ∃ q, K = q + 1 := ⟨K - 1, by omega⟩
  obtain ⟨m, rfl⟩ : ∃ q, m = q + 1 := ⟨m - 1, by omega⟩
  by_cases hlt : k < s.length
  · obtain ⟨c, hc⟩ := get_some hlt
    obtain ⟨a1, a2⟩ := step64a (n := n) hn s hs name σ k i0 hlt c hc
    have hdrop := drop_get hc
    by_cases hsep : c = 58
    · obtain ⟨b1, b2, b3⟩ := a2 hsep _ rfl
      rw [hdrop, spansR_cons, if_pos (by rw [hsep]; rfl)]
      by_cases hf : tw (s.drop (k + 1)) = []
      · rw [if_pos hf]
        obtain ⟨b, hb⟩ := b1 hf
        exact ⟨[], b, iterJ_done hb⟩
      · rw [if_neg hf]
        split
        · rename_i v hv
          obtain ⟨c1, c2⟩ := b3 hf v hv
          by_cases ht : tw v = []
          · rw [if_pos ht]
            obtain ⟨b, hb⟩ := c1 ht
            exact ⟨[], b, iterJ_done hb⟩
          · rw [if_neg ht]
            obtain ⟨b, i1, d1, d2, d3, d4⟩ := c2 ht
            rw [iterJ_next' d4, ← d3]
            exact res64_map _ (l131b hn s hs name σ K b m i1 _ (by simp) d2 (by omega) (by omega) (by simp; omega))
        · rename_i w hno
          obtain ⟨b, i1, d1, d2, d3, d4⟩ := b2 hf (fun v hv => hno v hv)
          rw [iterJ_next' d4, ← d3]
          exact res64_map _ (l131b hn s hs name σ K b m i1 _ (by simp) d2 (by omega) (by omega) (by simp; omega))
    · rw [hdrop, spansR_cons, if_neg (show ¬ c = sepB true from hsep), ← hdrop]
      obtain ⟨r1, r2⟩ := rest_here hk
      refine ⟨?_, r1, by rw [r2]⟩
      rw [iterJ_done (a1 hsep), r2]
      simp
  · have hnil : s.drop k = [] := List.drop_eq_nil_of_le (by omega)
    have hlt' : ¬ ((k : Int) < s.length) := by omega
    rw [hnil]
    refine ⟨?_, by simp, by simp⟩
    have : L131_1 (cpJ PR n) (ciJ PR n) n (.str s) (st64 k i0 name (apd σ 2 []).1) (apd σ 2 []).2 = some (.done (.tup [.agg [.str name, (apd σ 2 []).1], .int .i64 k, .bool true]) (apd σ 2 []).2) := by
      simp -implicitDefEqProofs [L131_1, B131_1, hlt']
    rw [iterJ_done this]
    have e : k = s.length := by omega
    simp [e]
theorem e131 {n : Nat} (hn : 4000 ≤ n) (s : Bs) (hs : s.length ≤ 1500) (i : Nat) (hi : i ≤ s.length) :
    (∃ l rest, levelR 3000 (s.drop i) = some (l, rest) ∧ rest.length ≤ s.length ∧ s.drop (s.length - rest.length) = rest ∧ cpJ PR n 131 [.str s, .int .i64 i] = some (.tup [ltD l.1 (l.2.map spRow), .int .i64 ((s.length - rest.length : Nat) : Int), .bool true])) ∨
    (levelR 3000 (s.drop i) = none ∧ ∃ nm0 rows, ∃ k : Nat, cpJ PR n 131 [.str s, .int .i64 i] = some (.tup [ltD nm0 rows, .int .i64 k, .bool false])) := by
  obtain ⟨n, rfl⟩ : ∃ m, n = m + 1 := ⟨n - 1, by omega⟩
  obtain ⟨b, w1, w2, w3, w4, w5, w6⟩ := e150 (n := n) s (by omega) (by omega) i hi
  have hsl := slc_ij w2 w3
  rw [w4] at hsl
  rw [u131]
  unfold levelR
  by_cases hf : tw (s.drop i) = []
  · have hbe : ((b : Int) == (i : Int)) = true := by rw [w6.2 hf]; simp
    rw [if_pos hf]
    refine .inr ⟨rfl, tw (s.drop i), [], b, ?_⟩
    simp -implicitDefEqProofs [D131, w1, hsl, hbe, slD_nil]
  · have hbne : b ≠ i := fun h => hf (w6.1 h)
    have hbe : ((b : Int) == (i : Int)) = false := by simp; omega
    rw [if_neg hf, ← w5]
    have hl := l131a (n := n) (by omega) s (by omega) (tw (s.drop i)) emptySto 3000 b n i (by omega) (by omega) (by omega) (by omega)
    have e : apd emptySto 2 [] = (.nils, emptySto) := rfl
    rw [e] at hl
    have hD : D131 (cpJ PR n) (ciJ PR n) n (.str s) (.int .i64 i) emptySto = iterJ 0 (L131_1 (cpJ PR n) (ciJ PR n) n (.str s)) n (st64 b i (tw (s.drop i)) .nils) emptySto := by
      simp -implicitDefEqProofs [D131, w1, hsl, hbe]
    cases hR : spansR 3000 true (s.drop b) with
    | some x =>
      obtain ⟨sp, rest⟩ := x
      rw [hR] at hl
      obtain ⟨h1, h2, h3⟩ := hl
      refine .inl ⟨(tw (s.drop i), sp), rest, rfl, h2, h3, ?_⟩
      rw [hD, h1]
      simp -implicitDefEqProofs
    | none =>
      rw [hR] at hl
      obtain ⟨es', k', h1⟩ := hl
      refine .inr ⟨rfl, tw (s.drop i), es', k', ?_⟩
      rw [hD, h1]
      simp -implicitDefEqProofs
end Go.Proofs.YthpccimmmfonjaaGreatDoor
namespace Go.Proofs.YthpccimmmfonjaaGreatDoor
set_option linter.unusedVariables false
set_option linter.unusedSimpArgs false
set_option maxRecDepth 20000
set_option maxHeartbeats 4000000
open Go
abbrev LTp := Bs × List Sp
def readP (s : Bs) : Option (LTp × LTp) :=
  match parsedP (Lib.cut s [45]).1 with
  | none => none
  | some l => if (Lib.cut s [45]).2.2 = true then (match parsedP (Lib.cut s [45]).2.1 with | none => none | some h => some (l, h)) else some (l, ([], []))
def readR (s : Bs) : Option (LTp × LTp) :=
  match levelR 3000 s with
  | none => none
  | some (l, []) => some (l, ([], []))
  | some (l, c :: r) => if c = 45 then (match levelR 3000 r with | none => none | some (h, rest) => if rest = [] then some (l, h) else none) else none
theorem dash_part {p : Bs × Bs} (h : ValidSp p) : (45 : UInt8) ∉ partS p := by
  obtain ⟨f, t⟩ := p
  obtain ⟨h1, h2⟩ := h
  have hf : (45 : UInt8) ∉ f := not_mem_word (wordP_iff.1 h1).1 isL_sp.2.2.2
  unfold partS
  split
  · exact hf
  · rename_i ht
    rcases h2 with h2 | h2
    · exact absurd h2 ht
    · have ht' : (45 : UInt8) ∉ t := not_mem_word (wordP_iff.1 h2).1 isL_sp.2.2.2
      simp only at ht' ⊢
      simp [hf, ht']
theorem dash_sp : ∀ (sp : List Sp) (first : Bool), (∀ p ∈ sp, ValidSp p) → (45 : UInt8) ∉ renderSp first sp
  | [], first, _ => by simp [renderSp]
  | p :: r, first, h => by
    have h1 := dash_part (h p (by simp))
    have h2 := dash_sp r false fun q hq => h q (by simp [hq])
    cases first <;> simp [renderSp, sepB, h1, h2]
theorem dash_render {l : LTp} (h : ValidL l) : (45 : UInt8) ∉ renderL l := by
  rw [renderL_sp, List.mem_append]
  rintro (h1 | h1)
  · exact not_mem_word (wordP_iff.1 h.1).1 isL_sp.2.2.2 h1
  · exact dash_sp _ _ h.2 h1
theorem render_len : ∀ (sp : List Sp) (first : Bool), sp.length ≤ (renderSp first sp).length
  | [], _ => by simp
  | p :: r, first => by
    have := render_len r false
    simp only [renderSp, List.length_cons, List.length_append]; omega
theorem spans_few {l : LTp} {s rest : Bs} (h : s = renderL l ++ rest) : l.2.length ≤ s.length := by
  rw [h, renderL_sp]
  have := render_len l.2 true
  simp only [List.length_append]; omega
theorem read_eq (s : Bs) (hs : s.length ≤ 2000) : readP s = readR s := by
  have key : ∀ x, readP s = some x → readR s = some x := by
    intro x h
    unfold readP at h
    rcases cut_exists 45 s with hm | ⟨a, b, rfl, hm⟩
    · rw [cut_miss hm] at h
      simp only [Bool.false_eq_true, if_false] at h
      split at h
      · cases h
      · rename_i l hl
        simp only [Option.some.injEq] at h
        subst h
        obtain ⟨h1, h2⟩ := parsedP_sound hl
        have h1' : s = renderL l ++ [] := by rw [List.append_nil]; exact h1
        have := levelR_complete (k := 3000) (rest := []) (l := l) (.inl rfl) (by have := spans_few h1'; omega) h2
        rw [← h1'] at this
        unfold readR
        rw [this]
    · rw [cut_hit hm] at h
      simp only [if_true] at h
      split at h
      · cases h
      · rename_i l hl
        split at h
        · cases h
        · rename_i g hg
          simp only [Option.some.injEq] at h
          subst h
          obtain ⟨h1, h2⟩ := parsedP_sound hl
          obtain ⟨g1, g2⟩ := parsedP_sound hg
          have e9001 : a ++ 45 :: b = renderL l ++ 45 :: b := by rw [← h1]
          have e9002 : b = renderL g ++ [] := by rw [List.append_nil]; exact g1
          have hb : b.length ≤ 2000 := by simp at hs; omega
          have r1 := levelR_complete (k := 3000) (rest := 45 :: b) (l := l) (.inr ⟨b, rfl⟩) (by have := spans_few e9001; omega) h2
          have r2 := levelR_complete (k := 3000) (rest := []) (l := g) (.inl rfl) (by have := spans_few e9002; omega) g2
          rw [← e9001] at r1
          rw [← e9002] at r2
          unfold readR
          rw [r1]
          simp only [if_true, r2]
  have back : ∀ x, readR s = some x → readP s = some x := by
    intro x h
    unfold readR at h
    split at h
    · cases h
    · rename_i l hl
      simp only [Option.some.injEq] at h
      subst h
      obtain ⟨h1, h2⟩ := levelR_sound hl
      rw [List.append_nil] at h1
      have hm : (45 : UInt8) ∉ s := by rw [h1]; exact dash_render h2
      have := parsedP_complete h2
      rw [← h1] at this
      unfold readP
      rw [cut_miss hm]
      simp only [this, Bool.false_eq_true, if_false]
    · rename_i l c r hl
      split at h
      · rename_i hc
        subst hc
        split at h
        · cases h
        · rename_i g rest hg
          split at h
          · rename_i hr
            subst hr
            simp only [Option.some.injEq] at h
            subst h
            obtain ⟨h1, h2⟩ := levelR_sound hl
            obtain ⟨g1, g2⟩ := levelR_sound hg
            rw [List.append_nil] at g1
            have hm := dash_render h2
            have p1 := parsedP_complete h2
            have p2 := parsedP_complete g2
            rw [← g1] at p2
            unfold readP
            rw [h1, cut_hit hm]
            simp only [p1, p2, if_true]
          · cases h
      · cases h
  cases hP : readP s with
  | some x => rw [key x hP]
  | none =>
    cases hR : readR s with
    | none => rfl
    | some x => rw [back x hR] at hP; cases hP
theorem readP_few {s : Bs} (hs : s.length ≤ 1000) {l h : LTp} (e : readP s = some (l, h)) : l.2.length ≤ 1000 ∧ h.2.length ≤ 1000 := by
  unfold readP at e
  have hl := cut_len s 45
  split at e
  · cases e
  · rename_i l' h1
    have a1 := (parsedP_sound h1).1
    have b1 : l'.2.length ≤ 1000 := by
      have := spans_few (l := l') (s := (Lib.cut s [45]).1) (rest := []) (by rw [List.append_nil]; exact a1)
      omega
    split at e
    · split at e
      · cases e
      · rename_i g h2
        simp only [Option.some.injEq, Prod.mk.injEq] at e
        obtain ⟨rfl, rfl⟩ := e
        have a2 := (parsedP_sound h2).1
        have := spans_few (l := g) (s := (Lib.cut s [45]).2.1) (rest := []) (by rw [List.append_nil]; exact a2)
        exact ⟨b1, by omega⟩
    · simp only [Option.some.injEq, Prod.mk.injEq] at e
      obtain ⟨rfl, rfl⟩ := e
      exact ⟨b1, by simp⟩
abbrev rtA (l h : LTp) : DVal := .agg [.str l.1, spD .nil l.2, .str h.1, spD .nil h.2]
section
variable {n : Nat} (hn : 20200 ≤ n) (z z' : Zs) {sens cats : List (List UInt8)} (hf : Few sens cats) (s : Bs) (hs : s.length ≤ 1000)
include hn hf hs
theorem e26_none (hP : propV sens cats = true) (hr : readP s = none) : cpJ PR n 26 [.str s, strsD z sens, strsD z' cats] = some (rgE 0 0 0 0 9) := by
  obtain ⟨n, rfl⟩ : ∃ m, n = m + 1 := ⟨n - 1, by omega⟩
  have h1 := p46 (n := n) z z' hf (by omega)
  rw [hP] at h1
  have h2 := e54 (n := n) (by omega) s (by omega) 45
  have hl := cut_len s 45
  have h3 := e55 (n := n) (Lib.cut s [45]).1 (by omega) (by omega)
  have h4 := e55 (n := n) (Lib.cut s [45]).2.1 (by omega) (by omega)
  unfold readP at hr
  rw [u26]
  generalize (Lib.cut s [45]).1 = a at h2 h3 hr
  generalize (Lib.cut s [45]).2.1 = b at h2 h4 hr
  generalize (Lib.cut s [45]).2.2 = q at h2 hr
  rcases h3 with ⟨l, p1, p2⟩ | ⟨p1, nm0, rows, p2⟩
  · rw [p1] at hr
    simp only at hr
    cases q with
    | false => simp at hr
    | true =>
      simp only [if_true] at hr
      rcases h4 with ⟨g, g1, g2⟩ | ⟨g1, nm1, rows1, g2⟩
      · rw [g1] at hr; simp at hr
      · simp -implicitDefEqProofs [D26, h1, h2, p2, g2]
  · simp -implicitDefEqProofs [D26, h1, h2, p2]
theorem e26_some (hP : propV sens cats = true) {l h : LTp} (hr : readP s = some (l, h)) {t t' : Int} {d d' : Nat} {f : Int} (h31 : cpJ PR (n - 1) 56 [rtA l h, strsD z sens, strsD z' cats] = some (rgE t d t' d' f)) :
    cpJ PR n 26 [.str s, strsD z sens, strsD z' cats] = some (rgE t d t' d' f) := by
  obtain ⟨n, rfl⟩ : ∃ m, n = m + 1 := ⟨n - 1, by omega⟩
  have h1 := p46 (n := n) z z' hf (by omega)
  rw [hP] at h1
  have h2 := e54 (n := n) (by omega) s (by omega) 45
  have hl := cut_len s 45
  have h3 := e55 (n := n) (Lib.cut s [45]).1 (by omega) (by omega)
  have h4 := e55 (n := n) (Lib.cut s [45]).2.1 (by omega) (by omega)
  unfold readP at hr
  rw [u26]
  simp only [Nat.add_sub_cancel] at h31
  generalize (Lib.cut s [45]).1 = a at h2 h3 hr
  generalize (Lib.cut s [45]).2.1 = b at h2 h4 hr
  generalize (Lib.cut s [45]).2.2 = q at h2 hr
  rcases h3 with ⟨l', p1, p2⟩ | ⟨p1, nm0, rows, p2⟩
  · rw [p1] at hr
    simp only at hr
    change _ = some (DVal.tup [.agg [.str l'.1, spD .nil l'.2], .bool true]) at p2
    cases q with
    | false =>
      simp only [Bool.false_eq_true, if_false, Option.some.injEq, Prod.mk.injEq] at hr
      obtain ⟨rfl, rfl⟩ := hr
      simp only [rtA, spD, List.map_nil, slD_nil] at h31
      simp -implicitDefEqProofs [D26, L26_0, J26_0, h1, h2, p2, h31]
    | true =>
      simp only [if_true] at hr
      rcases h4 with ⟨g, g1, g2⟩ | ⟨g1, nm1, rows1, g2⟩
      · rw [g1] at hr
        simp only [Option.some.injEq, Prod.mk.injEq] at hr
        obtain ⟨rfl, rfl⟩ := hr
        change _ = some (DVal.tup [.agg [.str g.1, spD .nil g.2], .bool true]) at g2
        simp only [rtA] at h31
        simp -implicitDefEqProofs [D26, L26_0, J26_0, h1, h2, p2, g2, h31]
      · rw [g1] at hr; simp at hr
  · rw [p1] at hr; simp at hr
end
theorem e98 {n : Nat} (hn : 5000 ≤ n) (s : Bs) (hs : s.length ≤ 1000) :
    (∃ l h, readR s = some (l, h) ∧ cpJ PR n 98 [.str s] = some (.tup [rtA l h, .bool true])) ∨
    (readR s = none ∧ ∃ n1 r1 n2 r2, cpJ PR n 98 [.str s] = some (.tup [rtD n1 r1 n2 r2, .bool false])) := by
  obtain ⟨n, rfl⟩ : ∃ m, n = m + 1 := ⟨n - 1, by omega⟩
  have h0 := e131 (n := n) (by omega) s (by omega) 0 (Nat.zero_le _)
  simp only [Int.natCast_zero, List.drop_zero] at h0
  rw [u98]
  unfold readR
  rcases h0 with ⟨l, rest, r1, r2, r3, r4⟩ | ⟨r1, nm0, rows, k, r4⟩
  · rw [r1]
    change _ = some (DVal.tup [.agg [.str l.1, spD .nil l.2], .int .i64 ((s.length - rest.length : Nat) : Int), .bool true]) at r4
    obtain ⟨i, hi⟩ : ∃ i, i = s.length - rest.length := ⟨_, rfl⟩
    rw [← hi] at r3 r4
    cases rest with
    | nil =>
      have e9001 : ((i : Int) == (s.length : Int)) = true := by simp at hi; simp [hi]
      refine .inl ⟨l, ([], []), rfl, ?_⟩
      simp only [rtA, spD, List.map_nil, slD_nil]
      simp only [spD] at r4
      simp -implicitDefEqProofs [D98, r4, e9001]
    | cons c r =>
      have hlen : r.length + 1 ≤ s.length := by simpa using r2
      have hi' : i = s.length - (r.length + 1) := by simpa using hi
      have e9001 : ((i : Int) == (s.length : Int)) = false := by simp; omega
      have hc : s[i]? = some c := by
        have : (s.drop i)[0]? = some c := by rw [r3]; rfl
        simpa using this
      have hd : s.drop (i + 1) = r := by
        have := drop_get hc
        rw [r3] at this
        exact (List.cons.inj this).2.symm
      have dq := u8_eq c 45
      have tq : (((45 : UInt8).toNat : Nat) : Int) = 45 := by decide
      rw [tq] at dq
      by_cases h45 : c = 45
      · subst h45
        obtain ⟨i1, hi1, hw⟩ : ∃ k1 : Nat, k1 = i + 1 ∧ IntKind.i64.wrap ((i : Int) + 1) = (k1 : Int) := ⟨i + 1, rfl, by rw [wrap_i64 (by omega) (by omega)]; rfl⟩
        have h1 := e131 (n := n) (by omega) s (by omega) i1 (by omega)
        rw [hi1, hd, ← hi1] at h1
        simp only [if_true]
        rcases h1 with ⟨g, rest2, t1, t2, t3, t4⟩ | ⟨t1, nm1, rows1, k1, t4⟩
        · rw [t1]
          simp only
          change _ = some (DVal.tup [.agg [.str g.1, spD .nil g.2], .int .i64 ((s.length - rest2.length : Nat) : Int), .bool true]) at t4
          by_cases hr2 : rest2 = []
          · subst hr2
            have e9002 : ((s.length - ([] : Bs).length : Nat) : Int) = s.length := by simp
            rw [e9002] at t4
            refine .inl ⟨l, g, by simp, ?_⟩
            simp only [rtA]
            simp only [spD] at r4 t4 ⊢
            simp -implicitDefEqProofs [D98, r4, e9001, hc, hw, t4]
          · obtain ⟨j, hj⟩ : ∃ j, j = s.length - rest2.length := ⟨_, rfl⟩
            rw [← hj] at t4
            have hpos : 0 < rest2.length := List.length_pos_iff.2 hr2
            have e9002 : ((j : Int) == (s.length : Int)) = false := by simp; omega
            refine .inr ⟨by simp [hr2], l.1, l.2.map spRow, g.1, g.2.map spRow, ?_⟩
            change _ = some (DVal.tup [.agg [.str l.1, spD .nil l.2, .str g.1, spD .nil g.2], .bool false])
            simp only [spD] at r4 t4 ⊢
            simp -implicitDefEqProofs [D98, r4, e9001, hc, hw, t4, e9002]
        · rw [t1]
          refine .inr ⟨rfl, l.1, l.2.map spRow, nm1, rows1, ?_⟩
          change _ = some (DVal.tup [.agg [.str l.1, spD .nil l.2, .str nm1, slD .nil 2 rows1], .bool false])
          simp only [spD] at r4 ⊢
          simp -implicitDefEqProofs [D98, r4, e9001, hc, hw, t4]
      · have dq' : ((c.toNat : Int) == 45) = false := by rw [dq]; simp [h45]
        have dq2 : ¬ ((c.toNat : Int) = 45) := by simpa using dq'
        refine .inr ⟨by simp [h45], [], [], [], [], ?_⟩
        simp only [spD] at r4
        simp -implicitDefEqProofs [D98, r4, e9001, hc, dq', dq2, slD_nil]
  · rw [r1]
    refine .inr ⟨rfl, nm0, rows, [], [], ?_⟩
    simp -implicitDefEqProofs [D98, r4, slD_nil]
section
variable {n : Nat} (hn : 20200 ≤ n) (z z' : Zs) {sens cats : List (List UInt8)} (hf : Few sens cats) (s : Bs) (hs : s.length ≤ 1000)
include hn hf hs
theorem e27_none (hP : propV sens cats = true) (hr : readR s = none) : cpJ PR n 52 [.str s, strsD z sens, strsD z' cats] = some (rgE 0 0 0 0 9) := by
  obtain ⟨n, rfl⟩ : ∃ m, n = m + 1 := ⟨n - 1, by omega⟩
  have h1 := p49 (n := n) z z' hf (by omega)
  rw [hP] at h1
  rw [u52]
  rcases e98 (n := n) (by omega) s hs with ⟨l, h, r1, r2⟩ | ⟨r1, n1, r1', n2, r2', r2⟩
  · rw [hr] at r1; cases r1
  · simp -implicitDefEqProofs [D52, h1, r2]
theorem e27_some (hP : propV sens cats = true) {l h : LTp} (hr : readR s = some (l, h)) {t t' : Int} {d d' : Nat} {f : Int} (h32 : cpJ PR (n - 1) 99 [rtA l h, strsD z sens, strsD z' cats] = some (rgE t d t' d' f)) :
    cpJ PR n 52 [.str s, strsD z sens, strsD z' cats] = some (rgE t d t' d' f) := by
  obtain ⟨n, rfl⟩ : ∃ m, n = m + 1 := ⟨n - 1, by omega⟩
  have h1 := p49 (n := n) z z' hf (by omega)
  rw [hP] at h1
  rw [u52]
  simp only [Nat.add_sub_cancel] at h32
  rcases e98 (n := n) (by omega) s hs with ⟨l', h', r1, r2⟩ | ⟨r1, n1, r1', n2, r2', r2⟩
  · rw [hr] at r1
    simp only [Option.some.injEq, Prod.mk.injEq] at r1
    obtain ⟨rfl, rfl⟩ := r1
    simp only [rtA] at r2 h32
    simp -implicitDefEqProofs [D52, h1, r2, h32]
  · rw [hr] at r1; cases r1
end
theorem bitsR_bits : ∀ {k a c j : Nat}, (bitsR c a k).testBit j = true → c.testBit j = true ∨ (a ≤ j ∧ j < a + k)
  | 0, a, c, j, h => .inl h
  | k + 1, a, c, j, h => by
    rcases bitsR_bits (k := k) (a := a + 1) (c := c ||| 2 ^ a) h with h | h
    · rw [Nat.testBit_or, Bool.or_eq_true] at h
      rcases h with h | h
      · exact .inl h
      · rw [Nat.testBit_two_pow] at h
        simp only [decide_eq_true_eq] at h
        exact .inr (by omega)
    · exact .inr (by omega)
theorem lvlAcc_bits (cats : List (List UInt8)) : ∀ (sp : List Sp) (c : Nat), (∀ j, c.testBit j = true → j < cats.length) → ∀ j, (lvlAcc cats sp c).1.testBit j = true → j < cats.length
  | [], c, h => h
  | p :: r, c, h => by
    rw [lvlAcc_cons]
    have hA := idxAt_cases p.1 cats 0
    have hB := idxAt_cases p.2 cats 0
    generalize idxAt p.1 cats 0 = A at hA ⊢
    have hb : (if p.2 ≠ [] then idxAt p.2 cats 0 else A) = -1 ∨ ∃ q : Nat, (if p.2 ≠ [] then idxAt p.2 cats 0 else A) = q ∧ q < cats.length := by
      split
      · rcases hB with h | ⟨q, h, hq, -⟩
        · exact .inl h
        · exact .inr ⟨q, by simpa using h, by omega⟩
      · rcases hA with h | ⟨q, h, hq, -⟩
        · exact .inl h
        · exact .inr ⟨q, by simpa using h, by omega⟩
    generalize (if p.2 ≠ [] then idxAt p.2 cats 0 else A) = b at hb ⊢
    split
    · intro j hj; simp at hj
    · split
      · intro j hj; simp at hj
      · refine lvlAcc_bits cats r _ fun j hj => ?_
        rcases bitsR_bits hj with hj | hj
        · exact h j hj
        · rcases hb with h | ⟨q, h, hq⟩ <;> omega
theorem levelV_ok {sens cats : List (List UInt8)} {name : List UInt8} {sp : List Sp} {s : Int} {c : Nat} (hc : c < 18446744073709551616) (h : levelV sens cats name sp = lvE s c 0) : checkV s c sens.length cats.length = true := by
  unfold levelV at h
  split at h
  · rename_i hP
    split at h
    · simp at h
    · rename_i hs
      unfold accD at h
      have hA := idxAt_cases name sens 0
      split at h
      · simp only [DVal.tup.injEq, List.cons.injEq, DVal.agg.injEq, DVal.int.injEq, true_and, and_true] at h
        obtain ⟨h1, h2⟩ := h
        have hcc : (lvlAcc cats sp 0).1 = c := by omega
        rw [← check_eq hc, decide_eq_true_eq]
        refine ⟨fun j _ _ hj => ?_, ?_, ?_⟩
        · have := lvlAcc_bits cats sp 0 (fun j hj => by simp at hj) j (by rw [hcc]; exact hj)
          omega
        · rcases hA with h | ⟨q, h, hq, -⟩ <;> omega
        · rcases hA with h | ⟨q, h, hq, -⟩ <;> omega
      · simp only [DVal.tup.injEq, List.cons.injEq, DVal.agg.injEq, DVal.int.injEq, true_and, and_true] at h
        rename_i hne
        exact absurd h.2 hne
  · simp at h
theorem rangeRV_ok {sens cats : List (List UInt8)} {n1 n2 : List UInt8} {sp1 sp2 : List Sp} {s s' : Int} {c c' : Nat} {e e' : Int} (hc : c < 18446744073709551616) (hc' : c' < 18446744073709551616) (l9001 : levelV sens cats n1 sp1 = lvE s c e) (l9002 : levelV sens cats n2 sp2 = lvE s' c' e')
    {no : Prop} [Decidable no] {t t' : Int} {d d' : Nat} (h : rangeRV s c e s' c' e' no = rgE t d t' d' 0) : rangeV t d t' d' sens.length cats.length = true ∧ Rok d d' := by
  unfold rangeRV at h
  split at h
  · rename_i he
    simp only [DVal.tup.injEq, List.cons.injEq, DVal.agg.injEq, DVal.int.injEq, true_and, and_true] at h
    exact absurd h.2 he
  · rename_i he
    have he : e = 0 := by simpa using he
    subst he
    have k1 := levelV_ok hc l9001
    split at h
    · simp only [DVal.tup.injEq, List.cons.injEq, DVal.agg.injEq, DVal.int.injEq, true_and, and_true] at h
      obtain ⟨rfl, h2, rfl, h3⟩ := h
      obtain rfl : c = d := by omega
      obtain rfl : c = d' := by omega
      exact ⟨by simp [rangeV, k1, dom_refl], hc, hc⟩
    · split at h
      · rename_i he'
        simp only [DVal.tup.injEq, List.cons.injEq, DVal.agg.injEq, DVal.int.injEq, true_and, and_true] at h
        exact absurd h.2 he'
      · rename_i he'
        have he' : e' = 0 := by simpa using he'
        subst he'
        have k2 := levelV_ok hc' l9002
        split at h
        · rename_i hd
          simp only [DVal.tup.injEq, List.cons.injEq, DVal.agg.injEq, DVal.int.injEq, true_and, and_true] at h
          obtain ⟨rfl, h2, rfl, h3⟩ := h
          obtain rfl : c = d := by omega
          obtain rfl : c' = d' := by omega
          exact ⟨by simp [rangeV, k1, k2, hd], hc, hc'⟩
        · simp at h
end Go.Proofs.YthpccimmmfonjaaGreatDoor
namespace Go.Proofs.YthpccimmmfonjaaGreatDoor
set_option linter.unusedVariables false
set_option linter.unusedSimpArgs false
set_option maxRecDepth 20000
set_option maxHeartbeats 4000000
open Go
theorem e104g {n : Nat} (u : Bs) (hu : u.length ≤ 20000) (hn : 20100 ≤ n) : cpJ PR n 104 [.str u] =
    some (.tup [.agg [.str (Lib.cut u [46]).1, .str (Lib.cut u [46]).2.1], .bool (wordV (Lib.cut u [46]).1 && (!(Lib.cut u [46]).2.2 || wordV (Lib.cut u [46]).2.1))]) := by
  obtain ⟨n, rfl⟩ : ∃ m, n = m + 1 := ⟨n - 1, by omega⟩
  have h1 := e54 (n := n) (by omega) u (by omega) 46
  have hl := cut_len u 46
  have h2 := e102 (n := n) (Lib.cut u [46]).1 (by omega) (by omega)
  have h3 := e102 (n := n) (Lib.cut u [46]).2.1 (by omega) (by omega)
  rw [u104]
  generalize (Lib.cut u [46]).1 = a at h1 h2 ⊢
  generalize (Lib.cut u [46]).2.1 = b at h1 h3 ⊢
  generalize (Lib.cut u [46]).2.2 = q at h1 ⊢
  cases hq : q <;> cases ha : wordV a <;> cases hb : wordV b <;> rw [hq] at h1 <;> rw [ha] at h2 <;> rw [hb] at h3 <;> simp -implicitDefEqProofs [D104, h1, h2, h3]
theorem l55g {n : Nat} (hn : 21000 ≤ n) (name : Bs) (ps : List Bs) (hps : ps.length ≤ 20100) (hpl : ∀ p ∈ ps, p.length ≤ 20000) (σ : Sto) : ∀ (k j m : Nat) (es : List (List DVal)) (u : DVal), j + k = ps.length → k < m → es.length ≤ j →
    (∀ sp, mapO spanP (ps.drop j) = some sp → iterJ 0 (L55_0 (cpJ PR n) (ciJ PR n) n (.slice false 0 1 (ps.map fun x => [.str x])) (.int .i64 ps.length)) m [.int .i64 j, u, .agg [.str name, (apd σ 2 es).1], .agg [.str [], .nils]] (apd σ 2 es).2 =
      some (.done (.tup [.agg [.str name, (apd σ 2 (es ++ sp.map spRow)).1], .bool true]) (apd σ 2 (es ++ sp.map spRow)).2)) ∧
    (mapO spanP (ps.drop j) = none → ∃ es', iterJ 0 (L55_0 (cpJ PR n) (ciJ PR n) n (.slice false 0 1 (ps.map fun x => [.str x])) (.int .i64 ps.length)) m [.int .i64 j, u, .agg [.str name, (apd σ 2 es).1], .agg [.str [], .nils]] (apd σ 2 es).2 =
      some (.done (.tup [.agg [.str name, (apd σ 2 es').1], .bool false]) (apd σ 2 es').2)) := by
  intro k
  induction k with
  | zero =>
    intro j m es u hj hm hes
    obtain ⟨m, rfl⟩ : ∃ q, m = q + 1 := ⟨m - 1, by omega⟩
    have hj' : ¬ ((j : Int) < ps.length) := by omega
    rw [List.drop_eq_nil_of_le (by omega)]
    refine ⟨fun sp h => ?_, fun h => by simp [mapO] at h⟩
    simp only [mapO, Option.some.injEq] at h
    subst h
    refine iterJ_done ?_
    simp -implicitDefEqProofs [L55_0, B55_0, hj']
  | succ k ih =>
    intro j m es u hj hm hes
    obtain ⟨m, rfl⟩ : ∃ q, m = q + 1 := ⟨m - 1, by omega⟩
    have hj' : ((j : Int) < ps.length) := by omega
    obtain ⟨p, hp⟩ := get_some (by omega : j < ps.length)
    have hw : IntKind.i64.wrap ((j : Int) + 1) = (j : Int) + 1 := wrap_i64 (by omega) (by omega)
    have h1 := e104g (n := n) p (hpl p (List.mem_of_getElem? hp)) (by omega)
    have h2 := spanP_eq p
    rw [drop_get hp]
    generalize (Lib.cut p [46]).1 = a at h1 h2
    generalize (Lib.cut p [46]).2.1 = b at h1 h2
    generalize (wordV a && (!(Lib.cut p [46]).2.2 || wordV b)) = ok at h1 h2
    have ha := app_apd (σ := σ) (sz := 2) (own := 1) (es := es) (r := spRow (a, b)) (by omega)
    cases ok with
    | true =>
      rw [if_pos rfl] at h2
      have step : L55_0 (cpJ PR n) (ciJ PR n) n (.slice false 0 1 (ps.map fun x => [.str x])) (.int .i64 ps.length) [.int .i64 j, u, .agg [.str name, (apd σ 2 es).1], .agg [.str [], .nils]] (apd σ 2 es).2 =
          some (.next 0 [.int .i64 ((j + 1 : Nat) : Int), u, .agg [.str name, (apd σ 2 (es ++ [spRow (a, b)])).1], .agg [.str [], .nils]] (apd σ 2 (es ++ [spRow (a, b)])).2) := by
        simp only [spRow] at ha ⊢
        simp -implicitDefEqProofs [L55_0, B55_0, hj', hp, h1, ha, hw]
      obtain ⟨i1, i2⟩ := ih (j + 1) m (es ++ [spRow (a, b)]) u (by omega) (by omega) (by simp; omega)
      simp only [mapO, h2]
      rw [iterJ_next' step]
      refine ⟨fun sp h => ?_, fun h => ?_⟩
      · split at h
        · rename_i y ys e9001 e9002
          simp only [Option.some.injEq] at h e9001
          subst h e9001
          rw [i1 _ e9002]
          simp
        · cases h
      · split at h
        · cases h
        · rename_i hno
          refine i2 ?_
          cases hd : mapO spanP (ps.drop (j + 1)) with
          | none => rfl
          | some ys => exact absurd hd (hno _ ys rfl)
    | false =>
      rw [if_neg (by decide)] at h2
      have hm : mapO spanP (p :: ps.drop (j + 1)) = none := by simp only [mapO, h2]
      rw [hm]
      refine ⟨fun sp h => (by cases h), fun _ => ⟨es, iterJ_done ?_⟩⟩
      simp -implicitDefEqProofs [L55_0, B55_0, hj', hp, h1]
theorem e55g {n : Nat} (u : Bs) (hu : u.length ≤ 20000) (hn : 24000 ≤ n) :
    (∃ l, parsedP u = some l ∧ cpJ PR n 55 [.str u] = some (.tup [ltD l.1 (l.2.map spRow), .bool true])) ∨
    (parsedP u = none ∧ ∃ nm0 rows, cpJ PR n 55 [.str u] = some (.tup [ltD nm0 rows, .bool false])) := by
  obtain ⟨n, rfl⟩ : ∃ m, n = m + 1 := ⟨n - 1, by omega⟩
  have h1 := e54 (n := n) (by omega) u (by omega) 58
  have hl := cut_len u 58
  have h2 := e102 (n := n) (Lib.cut u [58]).1 (by omega) (by omega)
  have h3 := e103 (n := n) (by omega) (Lib.cut u [58]).2.1 (by omega)
  have hs := splitN_len (Lib.cut u [58]).2.1
  rw [u55]
  unfold parsedP
  simp only
  generalize (Lib.cut u [58]).1 = a at h1 h2 hl ⊢
  generalize (Lib.cut u [58]).2.1 = b at h1 h3 hl hs ⊢
  generalize (Lib.cut u [58]).2.2 = q at h1 ⊢
  cases ha : wordV a with
  | false =>
    rw [ha] at h2
    refine .inr ⟨by simp, a, [], ?_⟩
    simp -implicitDefEqProofs [D55, h1, h2, slD_nil]
  | true =>
    rw [ha] at h2
    cases q with
    | false =>
      refine .inl ⟨(a, []), by simp, ?_⟩
      simp -implicitDefEqProofs [D55, h1, h2, slD_nil]
    | true =>
      generalize Lib.splitN b [44] (Lib.count b [44] + 1) = ps at h3 hs ⊢
      obtain ⟨i1, i2⟩ := l55g (n := n) (by omega) a ps (by omega) (fun p hp => by have := hs.2 p hp; omega) emptySto ps.length 0 n [] (.bool false) (by omega) (by omega) (by simp)
      simp only [List.drop_zero, Int.natCast_zero, List.nil_append] at i1 i2
      have e : apd emptySto 2 [] = (.nils, emptySto) := rfl
      rw [e] at i1 i2
      cases hm : mapO spanP ps with
      | some sp =>
        have := i1 sp hm
        refine .inl ⟨(a, sp), by simp, ?_⟩
        simp -implicitDefEqProofs [D55, h1, h2, h3, this]
      | none =>
        obtain ⟨es', this⟩ := i2 hm
        refine .inr ⟨by simp, a, es', ?_⟩
        simp -implicitDefEqProofs [D55, h1, h2, h3, this]
theorem e26g {n : Nat} (hn : 24010 ≤ n) (z z' : Zs) {sens cats : List (List UInt8)} (hf : Few sens cats) (s : Bs) (hs : s.length ≤ 100000) (hs1 : (Lib.cut s [45]).1.length ≤ 20000) (hs2 : (Lib.cut s [45]).2.1.length ≤ 20000) (hP : propV sens cats = true) {l h : LTp} (hr : readP s = some (l, h)) {t t' : Int} {d d' : Nat} {f : Int} (h31 : cpJ PR (n - 1) 56 [rtA l h, strsD z sens, strsD z' cats] = some (rgE t d t' d' f)) :
    cpJ PR n 26 [.str s, strsD z sens, strsD z' cats] = some (rgE t d t' d' f) := by
  obtain ⟨n, rfl⟩ : ∃ m, n = m + 1 := ⟨n - 1, by omega⟩
  have h1 := p46 (n := n) z z' hf (by omega)
  rw [hP] at h1
  have h2 := e54 (n := n) (by omega) s (by omega) 45
  have h3 := e55g (n := n) (Lib.cut s [45]).1 (by omega) (by omega)
  have h4 := e55g (n := n) (Lib.cut s [45]).2.1 (by omega) (by omega)
  unfold readP at hr
  rw [u26]
  simp only [Nat.add_sub_cancel] at h31
  generalize (Lib.cut s [45]).1 = a at h2 h3 hr
  generalize (Lib.cut s [45]).2.1 = b at h2 h4 hr
  generalize (Lib.cut s [45]).2.2 = q at h2 hr
  rcases h3 with ⟨l', p1, p2⟩ | ⟨p1, nm0, rows, p2⟩
  · rw [p1] at hr
    simp only at hr
    change _ = some (DVal.tup [.agg [.str l'.1, spD .nil l'.2], .bool true]) at p2
    cases q with
    | false =>
      simp only [Bool.false_eq_true, if_false, Option.some.injEq, Prod.mk.injEq] at hr
      obtain ⟨rfl, rfl⟩ := hr
      simp only [rtA, spD, List.map_nil, slD_nil] at h31
      simp -implicitDefEqProofs [D26, L26_0, J26_0, h1, h2, p2, h31]
    | true =>
      simp only [if_true] at hr
      rcases h4 with ⟨g, g1, g2⟩ | ⟨g1, nm1, rows1, g2⟩
      · rw [g1] at hr
        simp only [Option.some.injEq, Prod.mk.injEq] at hr
        obtain ⟨rfl, rfl⟩ := hr
        change _ = some (DVal.tup [.agg [.str g.1, spD .nil g.2], .bool true]) at g2
        simp only [rtA] at h31
        simp -implicitDefEqProofs [D26, L26_0, J26_0, h1, h2, p2, g2, h31]
      · rw [g1] at hr; simp at hr
  · rw [p1] at hr; simp at hr
def spanOf (cats : List (List UInt8)) (p : Nat × Nat) : Sp := (nm cats p.1, if p.1 < p.2 then nm cats p.2 else [])
def lvlL (sens cats : List (List UInt8)) (s c : Nat) : LTp := (nm sens s, (runs c).map (spanOf cats))
theorem idx_nm {l : List (List UInt8)} (hd : l.Nodup) {i : Nat} (hi : i < l.length) : idxAt (nm l i) l 0 = i := by
  have h0 := (idxAt_ge (nm l i) l 0).2 (nm_mem hi)
  rcases idxAt_cases (nm l i) l 0 with h | ⟨j, h1, h2, h3⟩
  · omega
  · have hij : i = j := (List.getElem?_inj hi hd).1 (by rw [h3, get_nm hi])
    omega
theorem bitsR_test : ∀ {k a c j : Nat}, (bitsR c a k).testBit j = (c.testBit j || (decide (a ≤ j) && decide (j < a + k)))
  | 0, a, c, j => by
    have : (decide (a ≤ j) && decide (j < a + 0)) = false := by simp <;> omega
    rw [this]; simp [bitsR]
  | k + 1, a, c, j => by
    rw [bitsR, bitsR_test (k := k), Nat.testBit_or, Nat.testBit_two_pow, Bool.or_assoc]
    congr 1
    rw [Bool.eq_iff_iff]
    simp only [Bool.or_eq_true, Bool.and_eq_true, decide_eq_true_eq]
    omega
theorem endR_all {c : Nat} : ∀ {k t j : Nat}, c.testBit t = true → t ≤ j → j ≤ endR c k t → c.testBit j = true
  | 0, t, j, h, h1, h2 => by
    have : j = t := by simp only [endR] at h2; omega
    rw [this]; exact h
  | k + 1, t, j, h, h1, h2 => by
    rw [endR] at h2
    by_cases e : j = t
    · rw [e]; exact h
    · split at h2
      · rename_i hc
        exact endR_all (k := k) hc.2 (by omega) h2
      · omega
theorem lvl_back {cats : List (List UInt8)} (hd : cats.Nodup) (hne : ∀ s ∈ cats, s ≠ []) {c : Nat} (hc : c < 18446744073709551616) (hv : ∀ j, c.testBit j = true → j < cats.length) :
    ∀ (k i acc : Nat), 64 ≤ i + k → ∃ r, lvlAcc cats ((runsR c k i).map (spanOf cats)) acc = (r, 0) ∧ ∀ j, r.testBit j = (acc.testBit j || (decide (i ≤ j) && c.testBit j)) := by
  have hhigh : ∀ j, 64 ≤ j → c.testBit j = false := fun j hj => Nat.testBit_lt_two_pow (Nat.lt_of_lt_of_le hc (Nat.pow_le_pow_right (n := 2) (by decide) hj))
  have hnone : ∀ i acc : Nat, 64 ≤ i → ∃ r, lvlAcc cats [] acc = (r, 0) ∧ ∀ j, r.testBit j = (acc.testBit j || (decide (i ≤ j) && c.testBit j)) := fun i acc hi => by
    refine ⟨acc, rfl, fun j => ?_⟩
    by_cases hj : i ≤ j
    · rw [hhigh j (by omega)]; simp
    · simp [hj]
  intro k
  induction k with
  | zero =>
    intro i acc hik
    exact hnone i acc (by omega)
  | succ k ih =>
    intro i acc hik
    rw [runsR]
    by_cases hi : i < 64
    · rw [if_pos hi]
      by_cases hb : c.testBit i = true
      · rw [if_pos hb]
        have hle := endR_le (c := c) (k := 64) (t := i) (by omega)
        have hbit := endR_bit (c := c) (k := 64) (t := i) hb
        have hall := @endR_all c 64 i
        generalize endR c 64 i = e at hle hbit hall ⊢
        have h1 := hv _ hb
        have h2 := hv _ hbit
        rw [List.map_cons, lvlAcc_cons]
        have x1 : idxAt (spanOf cats (i, e)).1 cats 0 = i := idx_nm hd h1
        have x2 : (if (spanOf cats (i, e)).2 ≠ [] then idxAt (spanOf cats (i, e)).2 cats 0 else idxAt (spanOf cats (i, e)).1 cats 0) = e := by
          by_cases hlt : i < e
          · have en : (spanOf cats (i, e)).2 = nm cats e := by simp [spanOf, hlt]
            rw [en, if_pos (hne _ (nm_mem h2))]
            exact idx_nm hd h2
          · have en : (spanOf cats (i, e)).2 = [] := by simp [spanOf, hlt]
            rw [en, if_neg (by simp), x1]
            omega
        rw [x2, x1, if_neg (by omega), if_neg (by omega)]
        obtain ⟨r, r1, r2⟩ := ih (e + 1) (bitsR acc (i : Int).toNat ((e : Int).toNat + 1 - (i : Int).toNat)) (by omega)
        refine ⟨r, r1, fun j => ?_⟩
        rw [r2, bitsR_test, Bool.or_assoc]
        congr 1
        simp only [Int.toNat_natCast]
        by_cases ha : i ≤ j ∧ j ≤ e
        · have := hall hb ha.1 ha.2
          rw [this, Bool.eq_iff_iff]
          simp only [Bool.or_eq_true, Bool.and_eq_true, decide_eq_true_eq, eq_self, and_true]
          omega
        · cases c.testBit j with
          | true =>
            rw [Bool.eq_iff_iff]
            simp only [Bool.or_eq_true, Bool.and_eq_true, decide_eq_true_eq, eq_self, and_true]
            omega
          | false =>
            rw [Bool.eq_iff_iff]
            simp only [Bool.or_eq_true, Bool.and_eq_true, decide_eq_true_eq, Bool.false_eq_true, and_false, or_false, iff_false]
            omega
      · rw [if_neg hb]
        obtain ⟨r, r1, r2⟩ := ih (i + 1) acc (by omega)
        refine ⟨r, r1, fun j => ?_⟩
        rw [r2]
        congr 1
        by_cases e : j = i
        · subst e
          have hb' : c.testBit j = false := by simpa using hb
          simp [hb']
        · rw [Bool.eq_iff_iff]
          simp only [Bool.and_eq_true, decide_eq_true_eq]
          constructor
          · rintro ⟨q1, q2⟩; exact ⟨by omega, q2⟩
          · rintro ⟨q1, q2⟩; exact ⟨by omega, q2⟩
    · rw [if_neg hi]
      exact hnone i acc (by omega)
theorem prop_names {sens cats : List (List UInt8)} (hP : propV sens cats = true) : ((∀ s ∈ sens, s ≠ [] ∧ s.length ≤ 32 ∧ s.all isL = true) ∧ sens.Nodup) ∧ ((∀ s ∈ cats, s ≠ [] ∧ s.length ≤ 32 ∧ s.all isL = true) ∧ cats.Nodup) := by
  simp only [propV, Bool.and_eq_true] at hP
  exact ⟨properB_name hP.1, properB_name hP.2⟩
section
variable {sens cats : List (List UInt8)} (hP : propV sens cats = true) {i c : Nat} (hi : i < sens.length) (hc : c < 18446744073709551616) (hv : ∀ j, c.testBit j = true → j < cats.length)
include hP hi hv
include hc in
theorem levelV_back : levelV sens cats (lvlL sens cats i c).1 (lvlL sens cats i c).2 = lvE i c 0 := by
  obtain ⟨⟨a1, a2⟩, b1, b2⟩ := prop_names hP
  obtain ⟨r, r1, r2⟩ := lvl_back b2 (fun s hs => (b1 s hs).1) hc hv 64 0 0 (by omega)
  have hr : r = c := Nat.eq_of_testBit_eq fun j => by rw [r2]; simp
  subst hr
  have e9001 : idxAt (nm sens i) sens 0 = i := idx_nm a2 hi
  have e9002 : lvlAcc cats ((runs r).map (spanOf cats)) 0 = (r, 0) := r1
  unfold levelV lvlL
  rw [if_pos hP]
  simp only
  rw [e9001, if_neg (by omega), e9002]
  simp [accD]
theorem validL_back : ValidL (lvlL sens cats i c) := by
  obtain ⟨⟨a1, a2⟩, b1, b2⟩ := prop_names hP
  have hw : ∀ j, j < cats.length → wordP (nm cats j) := fun j hj => wordP_iff.2 ⟨(b1 _ (nm_mem hj)).2.2, (b1 _ (nm_mem hj)).1⟩
  refine ⟨wordP_iff.2 ⟨(a1 _ (nm_mem hi)).2.2, (a1 _ (nm_mem hi)).1⟩, fun p hp => ?_⟩
  simp only [lvlL, List.mem_map] at hp
  obtain ⟨q, hq, rfl⟩ := hp
  have hb := runsR_bits hq
  refine ⟨hw _ (hv _ hb.1), ?_⟩
  by_cases hlt : q.1 < q.2
  · right
    have : (spanOf cats q).2 = nm cats q.2 := by simp [spanOf, hlt]
    rw [this]; exact hw _ (hv _ hb.2.1)
  · left; simp [spanOf, hlt]
omit hi in
theorem render_back : renderL (lvlL sens cats i c) = lvT sens cats i c := by
  obtain ⟨⟨a1, a2⟩, b1, b2⟩ := prop_names hP
  unfold renderL lvlL lvT
  simp only [List.map_map]
  congr 1
  refine List.map_congr_left fun p hp => ?_
  have hb := runsR_bits hp
  have hne := (b1 _ (nm_mem (hv _ hb.2.1))).1
  simp only [Function.comp, partS, spanOf, partT]
  by_cases hlt : p.1 < p.2
  · simp [hlt, hne]
  · simp [hlt]
end
theorem lvlL_few (sens cats : List (List UInt8)) (i c : Nat) : (lvlL sens cats i c).2.length ≤ 1000 := by
  have := runsR_len (c := c) (k := 64) (i := 0)
  simp only [lvlL, List.length_map, runs]; omega
end Go.Proofs.YthpccimmmfonjaaGreatDoor
