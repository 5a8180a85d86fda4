/- Texts of this proof, part 6: see the card for what is proved. -/
import Derived.Test.YtagkgekpfgepoaaDoorPe05
namespace Go.Proofs.YtagkgekpfgepoaaDoor
set_option linter.unusedVariables false
set_option linter.unusedSimpArgs false
set_option maxRecDepth 20000
set_option maxHeartbeats 8000000
open Go
theorem idx_own {σ : Sto} {v : DVal} {c : List RecV} {i : Nat} {x : RecV} (o : Own σ 9 v (recRows c)) (h : c[i]? = some x) : idxSSem 9 [v, .int .i64 i] = some (.elem x.row 0) :=
  own_idx o (by rw [recRows, List.getElem?_map, h]; rfl)
theorem l4b {n : Nat} {σ : Sto} {v : DVal} {c : List RecV} (o : Own σ 9 v (recRows c)) (hl : c.length ≤ 1000) (hp : ∀ x ∈ c, x.perms.l.length ≤ 1000) (hn : 10000 ≤ n) {a : Nat} {x : RecV} (hx : c[a]? = some x) (hd : ∀ b y, b < a → c[b]? = some y → sameV x y = false) (q : DVal) :
    ∀ (k b m : Nat), a = b + k → k < m → iterJ 2 (L4_0 (cpJ PR n) (ciJ PR n) n v (.int .i64 a)) m [.int .i64 b, q] σ = some (.next 1 [.int .i64 ((a + 1 : Nat) : Int), q] σ) := by
  have hal : a < c.length := (List.getElem?_eq_some_iff.1 hx).1
  have hw : IntKind.i64.wrap ((a : Int) + 1) = ((a + 1 : Nat) : Int) := wrap_succ (by omega)
  intro k
  induction k with
  | zero =>
    intro b m hb hm
    obtain ⟨m, rfl⟩ : ∃ q, m = q + 1 := ⟨m - 1, by omega⟩
    have hb' : ¬ ((b : Int) < a) := by omega
    refine iterJ_out ?_ (by decide)
    simp -implicitDefEqProofs [L4_0, B4_0, hb', hw]
  | succ k ih =>
    intro b m hb hm
    obtain ⟨m, rfl⟩ : ∃ q, m = q + 1 := ⟨m - 1, by omega⟩
    have hba : b < a := by omega
    have hbI : (b : Int) < a := by omega
    obtain ⟨y, hy⟩ := get_some (show b < c.length by omega)
    have g1 := idx_own o hx
    have g2 := idx_own o hy
    have px := hp x (List.mem_of_getElem? hx)
    have h18 := e18 (n := n) x y (by omega) (by omega)
    rw [hd b y hba hy] at h18
    have hwb : IntKind.i64.wrap ((b : Int) + 1) = ((b + 1 : Nat) : Int) := wrap_succ (by omega)
    rw [← ih (b + 1) m (by omega) (by omega)]
    refine iterJ_next' ?_
    simp -implicitDefEqProofs [L4_0, B4_0, hba, g1, g2, h18, hwb]
theorem l4a {n : Nat} {σ : Sto} {v : DVal} {c : List RecV} (o : Own σ 9 v (recRows c)) (hl : c.length ≤ 1000) (hp : ∀ x ∈ c, x.perms.l.length ≤ 1000) (hn : 1000000 ≤ n) (hd : c.Pairwise fun x y => sameV x y = false)
    (hok : ∀ x ∈ c, chkV { x with count := 1 } = 0) (hc : ∀ x ∈ c, 1 ≤ x.count) (i : Nat) (hi : i < 1000) (q : DVal) :
    ∀ (k a m : Nat), c.length = a + k → k < m → iterJ 1 (L4_1 (cpJ PR n) (ciJ PR n) n (.int .i64 i) v (.int .i64 c.length)) m [.int .i64 a, q] σ = some (.next 0 [.int .i64 ((i + 1 : Nat) : Int), q] σ) := by
  have hw : IntKind.i64.wrap ((i : Int) + 1) = ((i + 1 : Nat) : Int) := wrap_succ (by omega)
  intro k
  induction k with
  | zero =>
    intro a m ha hm
    obtain ⟨m, rfl⟩ : ∃ q, m = q + 1 := ⟨m - 1, by omega⟩
    have ha' : ¬ ((a : Int) < c.length) := by omega
    refine iterJ_out ?_ (by decide)
    generalize (c.length : Int) = K at *
    simp -implicitDefEqProofs [L4_1, B4_1, ha', hw]
  | succ k ih =>
    intro a m ha hm
    obtain ⟨m, rfl⟩ : ∃ q, m = q + 1 := ⟨m - 1, by omega⟩
    have hal : a < c.length := by omega
    have haI : (a : Int) < c.length := by omega
    obtain ⟨x, hx⟩ := get_some hal
    have hm' := List.mem_of_getElem? hx
    have g1 := idx_own o hx
    have ok := chk_ok (hok x hm')
    have hsrc := ok.src
    have htgt := ok.tgt
    simp only [prnB, Bool.and_eq_true, decide_eq_true_eq] at hsrc htgt
    have hcl := (name_len (ident_name ok.cls)).2
    have hpl : ∀ p ∈ x.perms.l, p.length ≤ 32 := fun p hp => (name_len (ident_name (perms_ok ok.perms p hp))).2
    have hsum := sum_le hpl
    have few := ok.few
    have few' : x.perms.l.length ≤ 32 := few
    have hcl' : x.cls.length ≤ 32 := hcl
    have hs1 : x.src.length ≤ 8192 := hsrc.2.2
    have ht1 : x.tgt.length ≤ 8192 := htgt.2.2
    have h14 := e14 (n := n) { x with count := 1 } ⟨by show x.src.length < _; omega, by show x.tgt.length < _; omega, by show x.cls.length < _; omega, fun p hp => by have := hpl p hp; omega, by show x.perms.l.length < _; omega⟩ (by unfold stepsR; show x.src.length + x.tgt.length + x.cls.length + (x.perms.l.map List.length).sum + x.perms.l.length + 200 ≤ n; omega)
    rw [hok x hm'] at h14
    have hcx := hc x hm'
    have hcx' : ¬ (x.count < 1) := by omega
    have hin := l4b (n := n) o hl hp (by omega) hx (fun b y hb hy => by
      have := List.pairwise_iff_getElem.1 hd b a (by omega) hal hb
      rw [List.getElem?_eq_getElem (show b < c.length by omega)] at hy
      rw [List.getElem?_eq_getElem hal] at hx
      simp only [Option.some.injEq] at hx hy
      rw [hx, hy] at this
      rw [same_symm]
      exact this) q a 0 n (by omega) (by omega)
    simp only [Int.natCast_zero] at hin
    have hset := RecV_set_count x 1
    rw [← ih (a + 1) m (by omega) (by omega)]
    refine iterJ_next' ?_
    generalize ({ x with count := 1 } : RecV) = Y at *
    generalize (c.length : Int) = K at *
    simp -implicitDefEqProofs [L4_1, B4_1, haI, g1, hset, h14, hcx', hin, -jwrSem.eq_1, -fldSem.eq_1, -RecV_set_count]
theorem Bnd.strip {M : LogV} (h : Bnd M) {c : List RecV} (hc : c.map RecV.strip = M.recs.map RecV.strip) : (c.length : Int) ≤ M.size ∧ (c.Pairwise fun x y => sameV x y = false) ∧ ∀ x ∈ c, chkV { x with count := 1 } = 0 := by
  have hlen : c.length = M.recs.length := by have := congrArg List.length hc; simpa using this
  refine ⟨by rw [hlen]; exact h.len, ?_, ?_⟩
  · have h1 : (M.recs.map RecV.strip).Pairwise fun x y => sameV x y = false := by
      rw [List.pairwise_map]
      exact h.diff.imp fun hab => by rw [same_strip]; exact hab
    rw [← hc, List.pairwise_map] at h1
    exact h1.imp fun hab => by rw [same_strip] at hab; exact hab
  · refine strip_mem hc (P := fun x => chkV { x with count := 1 } = 0) (fun x y e hx => ?_) h.ok
    have : ∀ z : RecV, chkV { z with count := 1 } = chkV { z.strip with count := 1 } := fun z => rfl
    rw [this, ← e, ← this]
    exact hx
theorem last_of {c l : List RecV} {r : RecV} (h : c.map RecV.strip = (l ++ [r]).map RecV.strip) : ∃ x, c[l.length]? = some x ∧ x.strip = r.strip ∧ c.length = l.length + 1 := by
  have hlen : c.length = l.length + 1 := by have := congrArg List.length h; simpa using this
  obtain ⟨x, hx⟩ := get_some (show l.length < c.length by omega)
  refine ⟨x, hx, ?_, hlen⟩
  have := congrArg (fun q => q[l.length]?) h
  simpa [hx] using this
theorem l4 {n : Nat} (hn : 1000000000005 ≤ n) (x : SetgV) (z : Zs) (ops : List OpV) (hl : ops.length ≤ 40) (hs : ∀ o ∈ ops, SmallR o.r) : ∀ (k i m : Nat) (σ : Sto) (v q : DVal) (M : LogV) (T : Int), ops.length = i + k → k < m → LogS σ 2 1 0 v M → Few M i → Cnt M T → T ≤ (i : Int) * 2147483647 → Bnd M → M.size = x.size →
    ∃ τ, iterJ 0 (L4_2 (cpJ PR n) (ciJ PR n) n (opsD z ops) x.d (.obj 2 0)) m [.int .i64 i, q] σ = some (.done (.bool true) τ) := by
  intro k
  have h2 := len_ops (z := z) (l := ops)
  have h9 := e9 (n := n) (by omega)
  induction k with
  | zero =>
    intro i m σ v q M T hi hm hL hF hC hT hB hsz
    obtain ⟨m, rfl⟩ : ∃ q, m = q + 1 := ⟨m - 1, by omega⟩
    have hi' : ¬ ((i : Int) < ops.length) := by omega
    refine ⟨σ, iterJ_done ?_⟩
    generalize opsD z ops = X at *
    generalize (ops.length : Int) = K at *
    simp -implicitDefEqProofs [L4_2, B4_2, hi', h2, h9]
  | succ k ih =>
    intro i m σ v q M T hi hm hL hF hC hT hB hsz
    obtain ⟨m, rfl⟩ : ∃ q, m = q + 1 := ⟨m - 1, by omega⟩
    have hlt : i < ops.length := by omega
    have hltI : (i : Int) < ops.length := by omega
    obtain ⟨o, ho⟩ := get_some hlt
    have hw : IntKind.i64.wrap ((i : Int) + 1) = ((i + 1 : Nat) : Int) := wrap_succ (by omega)
    have g1 := idx_ops (z := z) ho
    have hsm := hs o (List.mem_of_getElem? ho)
    obtain ⟨f1, f2⟩ := small_fit hsm
    have hTb : T ≤ 100000000000 := by
      have : (i : Int) * 2147483647 ≤ 40 * 2147483647 := Int.mul_le_mul_of_nonneg_right (by omega) (by omega)
      omega
    rcases mod_cases o.kind with ⟨hk, hk'⟩ | ⟨hk, hk'⟩
    · -- Clear
      obtain ⟨u2, σ2, b1, b2, -, -⟩ := e21s hL (n := n) (by omega)
      have hnn := tot_nonneg hC.one
      obtain ⟨τ, hτ⟩ := ih (i + 1) m σ2 .nils q { M with recs := [] } (T - totR M.recs) (by omega) (by omega) b2 hF.clear hC.clear (by rw [Int.natCast_add, Int.add_mul]; omega) hB.clear hsz
      refine ⟨τ, ?_⟩
      rw [← hτ]
      refine iterJ_next' ?_
      clear ih hτ
      generalize opsD z ops = X at *
      generalize (ops.length : Int) = K at *
      simp -implicitDefEqProofs [L4_2, B4_2, hltI, h2, g1, hk, hk', b1, hw]
    · -- Add
      obtain ⟨σ1, v1, b1, b2, b3, b4⟩ := e23s hL (n := n) (by omega) o.r f1 (by omega) (hF.room (by omega))
      have hF' : Few (addV M o.r).1 (i + 1) := hF.add (by have := hsm.few; omega)
      have hC' := hC.add (r := o.r) (by omega) chk_count
      obtain ⟨hB', hlast⟩ := hB.add (r := o.r)
      have hsz' : (addV M o.r).1.size = x.size := by
        rw [← hsz]
        unfold addV pushV
        split
        · split
          · split
            · rfl
            · split <;> rfl
          · rfl
        · rfl
      obtain ⟨u1, σ2, c1, a1, a2, a3, a4, a5⟩ := e27s b2 (n := n) (by omega) (hF'.room (by omega))
      have len1 := own_len a3
      have hlen : c1.length = (addV M o.r).1.recs.length := by have := congrArg List.length a4; simpa using this
      obtain ⟨s1, s2, s3⟩ := hB'.strip a4
      have few := hF'.recs
      have hcp : ∀ y ∈ c1, y.perms.l.length ≤ 1000 := strip_mem a4 (P := fun y => y.perms.l.length ≤ 1000) (fun p q e hx => by
        have : p.perms.l = q.perms.l := by
          have := congrArg (fun r : RecV => r.perms.l) e
          exact this
        rw [← this]; exact hx) hF'.perms
      have hcc : ∀ y ∈ c1, 1 ≤ y.count := strip_mem a4 (P := fun y => 1 ≤ y.count) (fun p q e hx => by rw [← count_eq e]; exact hx) hC'.one
      have lp := l4a (n := n) a3 (by omega) hcp (by omega) s2 s3 hcc i (by omega) q c1.length 0 n (by omega) (by omega)
      simp only [Int.natCast_zero] at lp
      have hTn : (if chkV o.r = 0 then T + o.r.count else T) ≤ ((i + 1 : Nat) : Int) * 2147483647 := by
        rw [Int.natCast_add, Int.add_mul]
        split
        · rename_i hc; have := (chk_count hc).2; omega
        · omega
      obtain ⟨τ, hτ⟩ := ih (i + 1) m σ2 v1 q _ _ (by omega) (by omega) a5 hF' hC' hTn hB' hsz'
      refine ⟨τ, ?_⟩
      rw [← hτ]
      refine iterJ_next' ?_
      have len1' : lenSlSem [u1] = some (.int .i64 c1.length) := by rw [len1]; simp [recRows]
      rw [hsz'] at s1
      have hs1 : ¬ (x.size < (c1.length : Int)) := by omega
      cases had : (addV M o.r).2 with
      | false =>
        rw [had] at b1
        clear ih hτ
        generalize opsD z ops = X at *
        generalize (ops.length : Int) = K at *
        generalize (c1.length : Int) = K1 at *
        simp -implicitDefEqProofs [L4_2, B4_2, hltI, h2, g1, hk, hk', b1, a1, len1', hs1, lp, -jwrSem.eq_1, -fldSem.eq_1, hw]
      | true =>
        rw [had] at b1
        obtain ⟨l, hl2⟩ := hlast had
        rw [hl2] at a4
        obtain ⟨y, y1, y2, y3⟩ := last_of a4
        have hwl : IntKind.i64.wrap ((c1.length : Int) - 1) = (l.length : Int) := by rw [y3]; exact wrap_pred (by omega)
        have hne : ¬ ((c1.length : Int) = 0) := by omega
        have hneb : ((c1.length : Int) == 0) = false := beq_eq_false_iff_ne.2 hne
        have hdrop : ((recRows c1).drop l.length).take ((recRows c1).length - l.length) = [y.row] := by
          rw [recRows, ← List.map_drop, drop_get y1, List.drop_eq_nil_of_le (by omega), List.length_map, y3]
          simp
        have hbI : (0 : Int) ≤ (l.length : Int) ∧ (l.length : Int) ≤ ((recRows c1).length : Int) := ⟨by omega, by simp [recRows]; omega⟩
        have q1 : slcVSem 9 true false false [u1, .int .i64 (l.length : Int)] = some (.slice false 0 9 [y.row]) := by
          rcases a3 with ⟨rfl, h0⟩ | rfl | ⟨t, rfl, ht⟩
          · exfalso
            have := congrArg List.length h0
            simp [recRows] at this
            rw [this] at y3
            simp at y3
          · simp only [slcVSem, if_true, bounds, if_pos hbI, Option.map_some, Int.toNat_natCast, hdrop]
            rfl
          · simp only [slcVSem, if_true, bounds, if_pos hbI, Option.map_some, Int.toNat_natCast, hdrop]
            rfl
        have hpy := hcp y (List.mem_of_getElem? y1)
        have h17 := e17 (n := n) .full .lit [y] [o.r] (by simp) (by simp; omega) (by omega)
        have heq : eqR y o.r = true := strip_eq_iff.1 y2
        rw [eqL, eqL, heq] at h17
        have h17 : cpJ PR n 17 [.slice false 0 9 [y.row], .slice false 1 9 [o.r.row]] = some (.bool true) := h17
        have hsl := RecV_slice (cpJ PR n) o.r
        clear ih hτ h9
        generalize opsD z ops = X at *
        generalize (ops.length : Int) = K at *
        generalize (c1.length : Int) = K1 at *
        generalize y.row = YR at *
        generalize (l.length : Int) = LL at *
        generalize o.r.row = OR at *
        simp -implicitDefEqProofs [L4_2, B4_2, hltI, h2, g1, hk, hk', b1, a1, len1', hs1, lp, hne, hneb, hwl, q1, hsl, h17, -jwrSem.eq_1, -fldSem.eq_1]
theorem e4 {n : Nat} (hn : 1000000000010 ≤ n) (x : SetgV) (z : Zs) (ops : List OpV) : cpJ PR n 4 [x.d, opsD z ops] = some (.bool true) := by
  obtain ⟨n, rfl⟩ : ∃ m, n = m + 1 := ⟨n - 1, by omega⟩
  have h7 := e7 (n := n) (by omega) z ops
  have h8 := e8 (n := n) (by omega) x
  have h9 := e9 (n := n) (by omega)
  have hseal : (opsD z ops).sealVal = some (opsD z ops) := sealVal_slD
  rw [u4]
  cases hsm : smallOps ops with
  | false =>
    rw [hsm] at h7
    generalize opsD z ops = X at *
    simp -implicitDefEqProofs [D4, h7, h9, hseal, -jwrSem.eq_1, -fldSem.eq_1]
  | true =>
    rw [hsm] at h7
    cases hok : newOk x.size x.burst x.interval with
    | false =>
      rw [hok] at h8
      generalize opsD z ops = X at *
      simp -implicitDefEqProofs [D4, h7, h8, h9, hseal, -jwrSem.eq_1, -fldSem.eq_1]
    | true =>
      rw [hok] at h8
      obtain ⟨s1, s2⟩ := small_ops hsm
      obtain ⟨σ, a1, a2, a3, a4, a5⟩ := log_new (n := n) (by omega) hok
      obtain ⟨τ, hτ⟩ := l4 (n := n) (by omega) x z ops s1 s2 ops.length 0 n σ .nils (.bool false) _ 0 (by omega) (by omega) a2 a3 a4 (by omega) a5 rfl
      simp only [Int.natCast_zero] at hτ
      generalize opsD z ops = X at *
      simp -implicitDefEqProofs [D4, h7, h8, h9, hseal, a1, hτ, -jwrSem.eq_1, -fldSem.eq_1]
end Go.Proofs.YtagkgekpfgepoaaDoor
namespace Go.Proofs.YtagkgekpfgepoaaDoor
set_option linter.unusedVariables false
set_option linter.unusedSimpArgs false
set_option maxRecDepth 20000
set_option maxHeartbeats 4000000
open Go
def zeroLog : DVal := .agg [.int .i64 0, .nils, .int .i64 0, .int .i64 0, .nilp]
def NoLog (σ : Sto) (p : DVal) : Prop := p = .nilp ∨ ∃ a, p = .obj a 0 ∧ a < σ.nobj ∧ σ.obj a = zeroLog
section
variable {n : Nat} {σ : Sto} {p : DVal} (h : NoLog σ p)
include h
theorem NoLog.okVal : p.okVal = true := by rcases h with rfl | ⟨a, rfl, -⟩ <;> rfl
theorem NoLog.new (d : DVal) : NoLog (σ.new d) p := by
  rcases h with rfl | ⟨a, rfl, h1, h2⟩
  · exact .inl rfl
  · exact .inr ⟨a, rfl, by simp; omega, by rw [Sto.new_obj_ne h1]; exact h2⟩
theorem z27 (hn : 1 ≤ n) : ciJ PR n 27 [p] σ = some (.bool false, σ) := by
  obtain ⟨n, rfl⟩ : ∃ m, n = m + 1 := ⟨n - 1, by omega⟩
  rw [v27]
  rcases h with rfl | ⟨a, rfl, h1, h2⟩
  · simp -implicitDefEqProofs [D27]
  · have h0 : ldOSem σ none [.obj a 0] = some (.int .i64 0, σ) := by rw [ld_obj _ h2 h1]; rfl
    simp -implicitDefEqProofs [D27, h0]
theorem z12 (hn : 2 ≤ n) : ciJ PR n 12 [p] σ = some (.nils, σ) := by
  obtain ⟨n, rfl⟩ : ∃ m, n = m + 1 := ⟨n - 1, by omega⟩
  have h1 := z27 h (n := n) (by omega)
  have h2 := h.okVal
  rw [v12]
  simp -implicitDefEqProofs [D12, h1, h2]
theorem z13 (hn : 2 ≤ n) : ciJ PR n 13 [p] σ = some (.tup [], σ) := by
  obtain ⟨n, rfl⟩ : ∃ m, n = m + 1 := ⟨n - 1, by omega⟩
  have h1 := z27 h (n := n) (by omega)
  have h2 := h.okVal
  rw [v13]
  simp -implicitDefEqProofs [D13, h1, h2]
theorem z16 (hn : 2 ≤ n) : ciJ PR n 16 [p] σ = some (.tup [.int .i64 0, .int .i64 0], σ) := by
  obtain ⟨n, rfl⟩ : ∃ m, n = m + 1 := ⟨n - 1, by omega⟩
  have h1 := z27 h (n := n) (by omega)
  have h2 := h.okVal
  rw [v16]
  simp -implicitDefEqProofs [D16, h1, h2]
theorem z20 (hn : 2 ≤ n) : ciJ PR n 20 [p] σ = some (.nilp, σ) := by
  obtain ⟨n, rfl⟩ : ∃ m, n = m + 1 := ⟨n - 1, by omega⟩
  have h1 := z27 h (n := n) (by omega)
  have h2 := h.okVal
  rw [v20]
  simp -implicitDefEqProofs [D20, h1, h2]
theorem z15 (hn : 2 ≤ n) (r : RecV) : ciJ PR n 15 [p, r.d] σ = some (.bool false, σ.new (.agg r.row)) := by
  obtain ⟨n, rfl⟩ : ∃ m, n = m + 1 := ⟨n - 1, by omega⟩
  have h1 := z27 (h.new (.agg r.row)) (n := n) (by omega)
  have h2 := h.okVal
  have hbx : boxOSem σ [r.d] = some (.obj σ.nobj 0, σ.new (.agg r.row)) := by
    simp only [boxOSem, show r.d.cells = r.row from rfl, RecV_okc, if_true]
    rfl
  rw [v15]
  generalize σ.new (.agg r.row) = σ1 at *
  simp -implicitDefEqProofs [D15, h1, h2, hbx]
end
theorem e6 {n : Nat} (hn : 1000000000010 ≤ n) (r : RecV) (b : Bool) : cpJ PR n 6 [r.d, .bool b] = some (.bool true) := by
  obtain ⟨n, rfl⟩ : ∃ m, n = m + 1 := ⟨n - 1, by omega⟩
  have h9 := e9 (n := n) (by omega)
  have hbl : POp.sem (cpJ PR n) [] (.build [(.int .i64 0), .nils, (.int .i64 0), (.int .i64 0), .nilp] []) = some zeroLog := rfl
  have hbx : boxOSem emptySto [zeroLog] = some (.obj 0 0, emptySto.new zeroLog) := rfl
  have key : ∀ p, NoLog (emptySto.new zeroLog) p → L6_0 (cpJ PR n) (ciJ PR n) n r.d [p] (emptySto.new zeroLog) = some (.done (.bool true) ((emptySto.new zeroLog).new (.agg r.row))) := by
    intro p h
    have a1 := z15 h (n := n) (by omega) r
    have h' := h.new (.agg r.row)
    have a2 := z13 h' (n := n) (by omega)
    have a3 := z16 h' (n := n) (by omega)
    have a4 := z12 h' (n := n) (by omega)
    have a5 := z20 h' (n := n) (by omega)
    have ok := h.okVal
    generalize (emptySto.new zeroLog).new (.agg r.row) = σ1 at *
    generalize emptySto.new zeroLog = σ0 at *
    simp -implicitDefEqProofs [L6_0, J6_0, a1, a2, a3, a4, a5, ok, h9, -jwrSem.eq_1, -fldSem.eq_1]
  have k1 := key .nilp (.inl rfl)
  have k2 := key (.obj 0 0) (.inr ⟨0, rfl, by simp, by rfl⟩)
  rw [u6]
  generalize (emptySto.new zeroLog).new (.agg r.row) = σ1 at *
  generalize emptySto.new zeroLog = σ0 at *
  generalize zeroLog = Z at *
  cases b with
  | true => simp -implicitDefEqProofs [D6, hbl, hbx, k1, -jwrSem.eq_1, -fldSem.eq_1]
  | false => simp -implicitDefEqProofs [D6, hbl, hbx, k2, -jwrSem.eq_1, -fldSem.eq_1]
end Go.Proofs.YtagkgekpfgepoaaDoor
