/- Texts of this proof, part 6: see the card for what is proved. -/
import Derived.Test.YthpccimmmfonjaaGreatDoorPw05
import Derived.Lib.DecodeN
import Derived.KernelRfl
import Derived.Test.YthpccimmmfonjaaGreatDoorPw04
namespace Go.Proofs.YthpccimmmfonjaaGreatDoor
set_option linter.unusedVariables false
set_option linter.unusedSimpArgs false
set_option maxRecDepth 20000
set_option maxHeartbeats 4000000
open Go
def cutK (c : UInt8) : Nat → Bs → List Bs
  | 0, s => [s]
  | k + 1, s => if c ∈ s then s.takeWhile (· != c) :: cutK c k (s.dropWhile (· != c)).tail else [s]
theorem tw_hit {c : UInt8} {b : Bs} : ∀ {a : Bs}, c ∉ a → (a ++ c :: b).takeWhile (· != c) = a
  | [], _ => by simp
  | x :: a, h => by
    simp only [List.mem_cons, not_or] at h
    have hb : (x != c) = true := by simpa using Ne.symm h.1
    simp [List.takeWhile_cons, hb, tw_hit h.2]
theorem dw_hit {c : UInt8} {b : Bs} : ∀ {a : Bs}, c ∉ a → (a ++ c :: b).dropWhile (· != c) = c :: b
  | [], _ => by simp
  | x :: a, h => by
    simp only [List.mem_cons, not_or] at h
    have hb : (x != c) = true := by simpa using Ne.symm h.1
    simp [List.dropWhile_cons, hb, dw_hit h.2]
theorem cutK_miss {c : UInt8} {k : Nat} {s : Bs} (h : c ∉ s) : cutK c k s = [s] := by
  cases k with
  | zero => rfl
  | succ k => rw [cutK, if_neg h]
theorem cutK_hit {c : UInt8} {k : Nat} {a b : Bs} (h : c ∉ a) : cutK c (k + 1) (a ++ c :: b) = a :: cutK c k b := by
  rw [cutK, if_pos (by simp), tw_hit h, dw_hit h]; rfl
theorem drop_hit {c : UInt8} {s : Bs} {f i : Nat} (hf : f ≤ i) (hi : i < s.length) (hc : s[i]? = some c) (hn : ∀ j, f ≤ j → j < i → s[j]? ≠ some c) :
    s.drop f = (s.drop f).take (i - f) ++ c :: s.drop (i + 1) ∧ c ∉ (s.drop f).take (i - f) := by
  constructor
  · have h1 : (s.drop f).drop (i - f) = c :: s.drop (i + 1) := by
      rw [List.drop_drop, show f + (i - f) = i by omega, drop_get hc]
    rw [← h1, List.take_append_drop]
  · intro h
    obtain ⟨j, hj⟩ := List.getElem?_of_mem h
    rw [List.getElem?_take] at hj
    split at hj
    · rw [List.getElem?_drop] at hj
      exact hn (f + j) (by omega) (by omega) hj
    · cases hj
theorem drop_miss {c : UInt8} {s : Bs} {f : Nat} (hn : ∀ j, f ≤ j → j < s.length → s[j]? ≠ some c) : c ∉ s.drop f := by
  intro h
  obtain ⟨j, hj⟩ := List.getElem?_of_mem h
  rw [List.getElem?_drop] at hj
  exact hn (f + j) (by omega) (List.getElem?_eq_some_iff.1 hj).1 hj
theorem get_byte (s : Bs) (i : Nat) : ((⟨s.toArray⟩ : ByteArray).get! i).toNat = (s.getD i 0).toNat := by
  simp only [ByteArray.get!, List.getElem!_toArray, List.getElem!_eq_getElem?_getD, List.getD_eq_getElem?_getD]
  rfl
theorem dec_at (s : Bs) (i : Nat) (hi : i < s.length) (c : UInt8) (hc : c.toNat < 128) : ∃ r w, Utf8.decode ⟨s.toArray⟩ i = (r, w) ∧ 1 ≤ w ∧ i + w ≤ s.length ∧ ((r = c.toNat ∧ w = 1 ∧ s[i]? = some c) ∨ (r ≠ c.toNat ∧ ∀ j, i ≤ j → j < i + w → s[j]? ≠ some c)) := by
  have key : ∀ j, s[j]? = some c → (s.getD j 0).toNat = c.toNat := fun j h => by rw [List.getD_eq_getElem?_getD, h]; rfl
  have key0 : (s.getD i 0).toNat = c.toNat → s[i]? = some c := fun h => by
    obtain ⟨x, hx⟩ := get_some hi
    rw [List.getD_eq_getElem?_getD, hx, Option.getD_some] at h
    rw [hx, UInt8.toNat_inj.1 h]
  rw [Lib.decode_at]
  simp only [get_byte, show (⟨s.toArray⟩ : ByteArray).size = s.length from rfl]
  have k0 := key i
  have k1 := key (i + 1)
  have k2 := key (i + 2)
  have k3 := key (i + 3)
  generalize (s.getD i 0).toNat = b0 at *
  generalize (s.getD (i + 1) 0).toNat = b1 at *
  generalize (s.getD (i + 2) 0).toNat = b2 at *
  generalize (s.getD (i + 3) 0).toNat = b3 at *
  have one : b0 ≠ c.toNat → ∀ j, i ≤ j → j < i + 1 → s[j]? ≠ some c := fun h j h1 h2 e => by
    obtain rfl : j = i := by omega
    exact h (k0 e)
  unfold Lib.decodeN
  split
  · rename_i h
    refine ⟨_, _, rfl, by omega, by omega, ?_⟩
    by_cases e : b0 = c.toNat
    · exact .inl ⟨e, rfl, key0 e⟩
    · exact .inr ⟨e, one e⟩
  · rename_i h
    have hne : b0 ≠ c.toNat := by omega
    have bad : ∀ (p : Prop) [Decidable p] (r w : Nat), ((p → 1 ≤ w ∧ i + w ≤ s.length ∧ (r ≠ c.toNat ∧ ∀ j, i ≤ j → j < i + w → s[j]? ≠ some c))) → ∃ r' w', (if p then (r, w) else (65533, 1)) = (r', w') ∧ 1 ≤ w' ∧ i + w' ≤ s.length ∧ ((r' = c.toNat ∧ w' = 1 ∧ s[i]? = some c) ∨ (r' ≠ c.toNat ∧ ∀ j, i ≤ j → j < i + w' → s[j]? ≠ some c)) := by
      intro p _ r w hp
      by_cases h : p
      · rw [if_pos h]
        exact ⟨_, _, rfl, (hp h).1, (hp h).2.1, .inr (hp h).2.2⟩
      · rw [if_neg h]
        exact ⟨_, _, rfl, by omega, by omega, .inr ⟨by omega, one hne⟩⟩
    split
    · rename_i h1
      refine bad _ _ _ fun h2 => ⟨by omega, by omega, by omega, fun j j1 j2 e => ?_⟩
      obtain rfl | rfl : j = i ∨ j = i + 1 := by omega
      · exact hne (k0 e)
      · have := k1 e; omega
    · split
      · rename_i h1
        refine bad _ _ _ fun h2 => ⟨by omega, by omega, by omega, fun j j1 j2 e => ?_⟩
        obtain rfl | rfl | rfl : j = i ∨ j = i + 1 ∨ j = i + 2 := by omega
        · exact hne (k0 e)
        · have := k1 e; omega
        · have := k2 e; omega
      · split
        · rename_i h1
          refine bad _ _ _ fun h2 => ⟨by omega, by omega, by omega, fun j j1 j2 e => ?_⟩
          obtain rfl | rfl | rfl | rfl : j = i ∨ j = i + 1 ∨ j = i + 2 ∨ j = i + 3 := by omega
          · exact hne (k0 e)
          · have := k1 e; omega
          · have := k2 e; omega
          · have := k3 e; omega
        · exact ⟨_, _, rfl, by omega, by omega, .inr ⟨by omega, one hne⟩⟩
theorem slc_from {s : Bs} {f : Nat} (h : f ≤ s.length) : slcSSem true false [.str s, .int .i64 f] = some (.str (s.drop f)) := by
  have : (f : Int) ≤ s.length := by omega
  simp [slcSSem, bounds, this, List.take_of_length_le]
theorem slc_mid {s : Bs} {f i : Nat} (h : f ≤ i) (hi : i ≤ s.length) : slcSSem true true [.str s, .int .i64 f, .int .i64 i] = some (.str ((s.drop f).take (i - f))) := by
  have h1 : (f : Int) ≤ i := by omega
  have h2 : (i : Int) ≤ s.length := by omega
  simp [slcSSem, bounds, h1, h2]
def partsV (s : Bs) : List Bs := cutK 58 3 s
def PEnd (s : Bs) (f : Nat) (done : List Bs) (o : Option Out) : Prop :=
  ∃ u σ', o = some (.done (.tup [u, .bool (decide ((done ++ cutK 58 (3 - done.length) (s.drop f)).length = 4))]) σ') ∧ Own σ' 1 u (srows (done ++ cutK 58 (3 - done.length) (s.drop f)))
theorem pend_last {s : Bs} {f : Nat} {done : List Bs} (hd : done.length ≤ 3) (h : done.length < 3 → 58 ∉ s.drop f) : cutK 58 (3 - done.length) (s.drop f) = [s.drop f] := by
  by_cases h3 : done.length = 3
  · rw [h3]; rfl
  · exact cutK_miss (h (by omega))
theorem dec3 (n : Nat) : (((n : Int) == 3) : Bool) = decide (n + 1 = 4) := by
  rw [Bool.eq_iff_iff, beq_iff_eq, decide_eq_true_eq]; omega
theorem own_nils' (σ : Sto) : Own σ 1 .nils (srows []) := own_nils σ 1
theorem l46 {n : Nat} (s : Bs) (hs : s.length ≤ 1000000) : ∀ (k i f m : Nat) (done : List Bs) (v : DVal) (σ : Sto), s.length - i ≤ k → i ≤ s.length → f ≤ i → k < m → done.length ≤ 3 → Own σ 1 v (srows done) → (done.length < 3 → ∀ j, f ≤ j → j < i → s[j]? ≠ some 58) →
    PEnd s f done (iterJ 0 (L46_0 (cpJ PR n) (ciJ PR n) n (.str s)) m [.int .i64 f, v, .tup [.str s, .int .i64 i]] σ) := by
  intro k
  induction k with
  | zero =>
    intro i f m done v σ hi hil hf hm hd hv hn
    obtain ⟨m, rfl⟩ : ∃ j, m = j + 1 := ⟨m - 1, by omega⟩
    have hi' : ¬ ((i : Int) < s.length) := by omega
    have h1 := slc_from (s := s) (f := f) (by omega)
    obtain ⟨u, σ', h2, hu⟩ := own_one (own := 1) (r := [.str (s.drop f)]) hv (by simp; omega)
    have h3 := own_len hv
    rw [List.length_map] at h3
    have h4 := pend_last hd fun h => drop_miss (f := f) fun j j1 j2 => hn h j j1 (by omega)
    refine ⟨u, σ', ?_, by rw [h4]; simpa [srows] using hu⟩
    rw [h4]
    refine iterJ_done ?_
    simp -implicitDefEqProofs [L46_0, B46_0, hi', h1, h2, h3, dec3, own_okVal hu, -slcSSem.eq_1]
  | succ k ih =>
    intro i f m done v σ hi hil hf hm hd hv hn
    obtain ⟨m, rfl⟩ : ∃ j, m = j + 1 := ⟨m - 1, by omega⟩
    have h3 := own_len hv
    rw [List.length_map] at h3
    by_cases hlt : i < s.length
    · have hi' : ((i : Int) < s.length) := by omega
      have hwr := wrap_i hlt (by unfold maxLen; omega)
      obtain ⟨r, w, hdec, hw1, hw2, hcase⟩ := dec_at s i hlt 58 (by decide)
      rw [show (58 : UInt8).toNat = 58 from rfl] at hcase
      by_cases hgo : r = 58 ∧ done.length < 3
      · obtain ⟨hr, h5'⟩ := hgo
        have h5 : ((done.length : Int) < 3) := by omega
        obtain ⟨-, hw, hx⟩ : r = 58 ∧ w = 1 ∧ s[i]? = some 58 := by
          rcases hcase with h | ⟨h, -⟩
          · exact h
          · exact absurd hr h
        subst hr hw
        obtain ⟨g1, g2⟩ := drop_hit hf hlt hx (hn h5')
        have h1 := slc_mid (s := s) hf (by omega)
        obtain ⟨u, σ', h2, hu⟩ := own_one (own := 1) (r := [.str ((s.drop f).take (i - f))]) hv (by simp; omega)
        have e : cutK 58 (3 - done.length) (s.drop f) = (s.drop f).take (i - f) :: cutK 58 (3 - (done ++ [(s.drop f).take (i - f)]).length) (s.drop (i + 1)) := by
          rw [g1, show 3 - done.length = (3 - done.length - 1) + 1 by omega, cutK_hit g2, ← g1, show 3 - done.length - 1 = 3 - (done ++ [(s.drop f).take (i - f)]).length by simp; omega]
        obtain ⟨u', σ'', h6, hu'⟩ := ih (i + 1) (i + 1) m (done ++ [(s.drop f).take (i - f)]) u σ' (by omega) (by omega) (by omega) (by omega) (by simp; omega) (by simpa [srows] using hu) (fun _ j j1 j2 => by omega)
        rw [List.append_assoc, List.singleton_append, ← e] at h6 hu'
        refine ⟨u', σ'', ?_, hu'⟩
        rw [← h6]
        refine iterJ_next' ?_
        simp -implicitDefEqProofs [L46_0, B46_0, hi', hdec, hwr, h1, h2, h3, h5, -slcSSem.eq_1]
      · have h6 := ih (i + w) f m done v σ (by omega) (by omega) (by omega) (by omega) hd hv (fun h5 j j1 j2 => by
          by_cases e : j < i
          · exact hn h5 j j1 e
          · rcases hcase with ⟨h, -⟩ | ⟨-, h⟩
            · exact absurd ⟨h, h5⟩ hgo
            · exact h j (by omega) j2)
        have e : iterJ 0 (L46_0 (cpJ PR n) (ciJ PR n) n (.str s)) (m + 1) [.int .i64 f, v, .tup [.str s, .int .i64 i]] σ = iterJ 0 (L46_0 (cpJ PR n) (ciJ PR n) n (.str s)) m [.int .i64 f, v, .tup [.str s, .int .i64 ((i + w : Nat) : Int)]] σ := by
          refine iterJ_next' ?_
          by_cases hr : r = 58
          · have h5 : ¬ ((done.length : Int) < 3) := fun h => hgo ⟨hr, by omega⟩
            subst hr
            simp -implicitDefEqProofs [L46_0, B46_0, hi', hdec, h3, h5, -slcSSem.eq_1]
          · have h7 : ((r : Int) == 58) = false := beq_eq_false_iff_ne.2 (by omega)
            simp -implicitDefEqProofs [L46_0, B46_0, hi', hdec, h3, h7, -slcSSem.eq_1, -beq_eq_false_iff_ne, -beq_iff_eq]
        rw [e]; exact h6
    · have hi' : ¬ ((i : Int) < s.length) := by omega
      have h1 := slc_from (s := s) (f := f) (by omega)
      obtain ⟨u, σ', h2, hu⟩ := own_one (own := 1) (r := [.str (s.drop f)]) hv (by simp; omega)
      have h4 := pend_last hd fun h => drop_miss (f := f) fun j j1 j2 => hn h j j1 (by omega)
      refine ⟨u, σ', ?_, by rw [h4]; simpa [srows] using hu⟩
      rw [h4]
      refine iterJ_done ?_
      simp -implicitDefEqProofs [L46_0, B46_0, hi', h1, h2, h3, dec3, own_okVal hu, -slcSSem.eq_1]
theorem e46 {n : Nat} (s : Bs) (hs : s.length ≤ 1000000) (hn : s.length + 10 ≤ n) : ∃ z, cpJ PR n 46 [.str s] = some (.tup [strsD z (partsV s), .bool (decide ((partsV s).length = 4))]) := by
  obtain ⟨n, rfl⟩ : ∃ m, n = m + 1 := ⟨n - 1, by omega⟩
  obtain ⟨u, σ', h1, hu⟩ := l46 (n := n) s hs s.length 0 0 n [] .nils emptySto (by omega) (by omega) (by omega) (by omega) (by simp) (own_nils' _) (fun _ j j1 j2 => by omega)
  simp only [Int.natCast_zero, List.nil_append, List.length_nil, Nat.sub_zero, List.drop_zero] at h1 hu
  change _ = some (Out.done (DVal.tup [u, .bool (decide ((partsV s).length = 4))]) σ') at h1
  change Own σ' 1 u (srows (partsV s)) at hu
  obtain ⟨z, hz⟩ := own_seal hu
  refine ⟨z, ?_⟩
  rw [u46]
  simp -implicitDefEqProofs [D46, h1, hz, strsD]
def findI {α : Type} (f : α → Bool) : List α → Nat → Int
  | [], _ => -1
  | x :: l, i => if f x then (i : Int) else findI f l (i + 1)
def userF (s : Bs) (u : UserV) : Bool := u.name == s
def roleF (s : Bs) (r : RoleV) : Bool := r.name == s
def typeF (s : Bs) (t : TypeV) : Bool := t.name == s || decide (s ∈ t.aliases.l)
section
variable {s : Bs} {a : Nat} {σ : Sto} (ho : σ.obj a = .agg [.str s]) (ha : a < σ.nobj)
include ho ha
theorem ld_name : ldOSem σ none [.obj a 0] = some (.str s, σ) := by
  rw [ld_obj none ho ha]; rfl
theorem e88 {n : Nat} (hn : 1 ≤ n) (u : UserV) : ciJ PR n 88 [u.d, .obj a 0] σ = some (.bool (userF s u), σ) := by
  obtain ⟨n, rfl⟩ : ∃ m, n = m + 1 := ⟨n - 1, by omega⟩
  have h1 := ld_name ho ha
  rw [v88]
  simp -implicitDefEqProofs [D88, h1, userF]
theorem e90 {n : Nat} (hn : 1 ≤ n) (u : RoleV) : ciJ PR n 90 [u.d, .obj a 0] σ = some (.bool (roleF s u), σ) := by
  obtain ⟨n, rfl⟩ : ∃ m, n = m + 1 := ⟨n - 1, by omega⟩
  have h1 := ld_name ho ha
  rw [v90]
  simp -implicitDefEqProofs [D90, h1, roleF]
theorem e92 {n : Nat} (t : TypeV) (hl : t.aliases.l.length ≤ 100) (hn : 200 ≤ n) : ciJ PR n 92 [t.d, .obj a 0] σ = some (.bool (typeF s t), σ) := by
  obtain ⟨n, rfl⟩ : ∃ m, n = m + 1 := ⟨n - 1, by omega⟩
  have h1 := ld_name ho ha
  have h2 : cpJ PR n 93 [strs t.aliases, .str s] = some (.bool (decide (s ∈ t.aliases.l))) := e93 (n := n) t.aliases.z t.aliases.l s (by omega) (by omega)
  rw [v92]
  cases h : (t.name == s) <;> simp -implicitDefEqProofs [D92, h1, h2, typeF, h, -beq_iff_eq, -beq_eq_false_iff_ne]
theorem l87 {n : Nat} (hn : 1 ≤ n) (us : Sl UserV) (hl : us.l.length ≤ 1000) : ∀ (k i m : Nat) (w : DVal), i + k = us.l.length → k < m →
    iterJ 0 (L87_0 (cpJ PR n) (ciJ PR n) n (slOf 11 UserV.row us) (.func 88 [.obj a 0]) (.int .i64 us.l.length)) m [.int .i64 i, w] σ = some (.done (.int .i64 (findI (userF s) (us.l.drop i) i)) σ) := by
  intro k
  induction k with
  | zero =>
    intro i m w hi hm
    obtain ⟨m, rfl⟩ : ∃ j, m = j + 1 := ⟨m - 1, by omega⟩
    have hi' : ¬ ((i : Int) < us.l.length) := by omega
    rw [List.drop_eq_nil_of_le (by omega)]
    refine iterJ_done ?_
    simp -implicitDefEqProofs [L87_0, B87_0, hi', findI]
  | succ k ih =>
    intro i m w hi hm
    obtain ⟨m, rfl⟩ : ∃ j, m = j + 1 := ⟨m - 1, by omega⟩
    have hi' : ((i : Int) < us.l.length) := by omega
    obtain ⟨x, hx⟩ := get_some (by omega : i < us.l.length)
    have hwr := wrap_i (by omega : i < us.l.length) (by unfold maxLen; omega)
    have h1 := e88 ho ha hn x
    rw [drop_get hx, findI]
    cases hf : userF s x <;> rw [hf] at h1
    · simp only [Bool.false_eq_true, if_false]
      rw [← ih (i + 1) m w (by omega) (by omega)]
      refine iterJ_next' ?_
      simp -implicitDefEqProofs [L87_0, B87_0, hi', hx, hwr, h1]
    · refine iterJ_done ?_
      simp -implicitDefEqProofs [L87_0, B87_0, hi', hx, hwr, h1]
theorem l89 {n : Nat} (hn : 1 ≤ n) (us : Sl RoleV) (hl : us.l.length ≤ 1000) : ∀ (k i m : Nat) (w : DVal), i + k = us.l.length → k < m →
    iterJ 0 (L89_0 (cpJ PR n) (ciJ PR n) n (slOf 9 RoleV.row us) (.func 90 [.obj a 0]) (.int .i64 us.l.length)) m [.int .i64 i, w] σ = some (.done (.int .i64 (findI (roleF s) (us.l.drop i) i)) σ) := by
  intro k
  induction k with
  | zero =>
    intro i m w hi hm
    obtain ⟨m, rfl⟩ : ∃ j, m = j + 1 := ⟨m - 1, by omega⟩
    have hi' : ¬ ((i : Int) < us.l.length) := by omega
    rw [List.drop_eq_nil_of_le (by omega)]
    refine iterJ_done ?_
    simp -implicitDefEqProofs [L89_0, B89_0, hi', findI]
  | succ k ih =>
    intro i m w hi hm
    obtain ⟨m, rfl⟩ : ∃ j, m = j + 1 := ⟨m - 1, by omega⟩
    have hi' : ((i : Int) < us.l.length) := by omega
    obtain ⟨x, hx⟩ := get_some (by omega : i < us.l.length)
    have hwr := wrap_i (by omega : i < us.l.length) (by unfold maxLen; omega)
    have h1 := e90 ho ha hn x
    rw [drop_get hx, findI]
    cases hf : roleF s x <;> rw [hf] at h1
    · simp only [Bool.false_eq_true, if_false]
      rw [← ih (i + 1) m w (by omega) (by omega)]
      refine iterJ_next' ?_
      simp -implicitDefEqProofs [L89_0, B89_0, hi', hx, hwr, h1]
    · refine iterJ_done ?_
      simp -implicitDefEqProofs [L89_0, B89_0, hi', hx, hwr, h1]
theorem l91 {n : Nat} (hn : 200 ≤ n) (us : Sl TypeV) (hl : us.l.length ≤ 1000) (hal : ∀ t ∈ us.l, t.aliases.l.length ≤ 4) : ∀ (k i m : Nat) (w : DVal), i + k = us.l.length → k < m →
    iterJ 0 (L91_0 (cpJ PR n) (ciJ PR n) n (slOf 3 TypeV.row us) (.func 92 [.obj a 0]) (.int .i64 us.l.length)) m [.int .i64 i, w] σ = some (.done (.int .i64 (findI (typeF s) (us.l.drop i) i)) σ) := by
  intro k
  induction k with
  | zero =>
    intro i m w hi hm
    obtain ⟨m, rfl⟩ : ∃ j, m = j + 1 := ⟨m - 1, by omega⟩
    have hi' : ¬ ((i : Int) < us.l.length) := by omega
    rw [List.drop_eq_nil_of_le (by omega)]
    refine iterJ_done ?_
    simp -implicitDefEqProofs [L91_0, B91_0, hi', findI]
  | succ k ih =>
    intro i m w hi hm
    obtain ⟨m, rfl⟩ : ∃ j, m = j + 1 := ⟨m - 1, by omega⟩
    have hi' : ((i : Int) < us.l.length) := by omega
    obtain ⟨x, hx⟩ := get_some (by omega : i < us.l.length)
    have hwr := wrap_i (by omega : i < us.l.length) (by unfold maxLen; omega)
    have h1 := e92 ho ha (n := n) x (by have := hal x (List.mem_of_getElem? hx); omega) hn
    rw [drop_get hx, findI]
    cases hf : typeF s x <;> rw [hf] at h1
    · simp only [Bool.false_eq_true, if_false]
      rw [← ih (i + 1) m w (by omega) (by omega)]
      refine iterJ_next' ?_
      simp -implicitDefEqProofs [L91_0, B91_0, hi', hx, hwr, h1]
    · refine iterJ_done ?_
      simp -implicitDefEqProofs [L91_0, B91_0, hi', hx, hwr, h1]
end
theorem box_str (σ : Sto) (s : Bs) : boxOSem σ [.str s] = some (.obj σ.nobj 0, σ.new (.agg [.str s])) := rfl
theorem e47 {n : Nat} (hn : 2000 ≤ n) (p : PolV) (hp : SmallP p) (s : Bs) : cpJ PR n 47 [p.d, .str s] = some (.int .i64 (findI (userF s) p.users.l 0)) := by
  obtain ⟨n, rfl⟩ : ∃ m, n = m + 2 := ⟨n - 2, by omega⟩
  have hl := hp.users
  have h1 := l87 (n := n) (s := s) (a := emptySto.nobj) (σ := emptySto.new (.agg [.str s])) (by simp) (by simp) (by omega) p.users (by omega) p.users.l.length 0 n (.int .i64 0) (by omega) (by omega)
  simp only [Int.natCast_zero, List.drop_zero] at h1
  have h2 : ciJ PR (n + 1) 87 [slOf 11 UserV.row p.users, .func 88 [.obj emptySto.nobj 0]] (emptySto.new (.agg [.str s])) = some (.int .i64 (findI (userF s) p.users.l 0), emptySto.new (.agg [.str s])) := by
    rw [v87]
    simp -implicitDefEqProofs [D87, h1]
  rw [u47]
  simp -implicitDefEqProofs [D47, box_str, h2]
theorem e48 {n : Nat} (hn : 2000 ≤ n) (p : PolV) (hp : SmallP p) (s : Bs) : cpJ PR n 48 [p.d, .str s] = some (.int .i64 (findI (roleF s) p.roles.l 0)) := by
  obtain ⟨n, rfl⟩ : ∃ m, n = m + 2 := ⟨n - 2, by omega⟩
  have hl := hp.roles
  have h1 := l89 (n := n) (s := s) (a := emptySto.nobj) (σ := emptySto.new (.agg [.str s])) (by simp) (by simp) (by omega) p.roles (by omega) p.roles.l.length 0 n (.int .i64 0) (by omega) (by omega)
  simp only [Int.natCast_zero, List.drop_zero] at h1
  have h2 : ciJ PR (n + 1) 89 [slOf 9 RoleV.row p.roles, .func 90 [.obj emptySto.nobj 0]] (emptySto.new (.agg [.str s])) = some (.int .i64 (findI (roleF s) p.roles.l 0), emptySto.new (.agg [.str s])) := by
    rw [v89]
    simp -implicitDefEqProofs [D89, h1]
  rw [u48]
  simp -implicitDefEqProofs [D48, box_str, h2]
theorem e49 {n : Nat} (hn : 2000 ≤ n) (p : PolV) (hp : SmallP p) (s : Bs) : cpJ PR n 49 [p.d, .str s] = some (.int .i64 (findI (typeF s) p.types.l 0)) := by
  obtain ⟨n, rfl⟩ : ∃ m, n = m + 2 := ⟨n - 2, by omega⟩
  have hl := hp.types
  have h1 := l91 (n := n) (s := s) (a := emptySto.nobj) (σ := emptySto.new (.agg [.str s])) (by simp) (by simp) (by omega) p.types (by omega) hp.aliases p.types.l.length 0 n (.int .i64 0) (by omega) (by omega)
  simp only [Int.natCast_zero, List.drop_zero] at h1
  have h2 : ciJ PR (n + 1) 91 [slOf 3 TypeV.row p.types, .func 92 [.obj emptySto.nobj 0]] (emptySto.new (.agg [.str s])) = some (.int .i64 (findI (typeF s) p.types.l 0), emptySto.new (.agg [.str s])) := by
    rw [v91]
    simp -implicitDefEqProofs [D91, h1]
  rw [u49]
  simp -implicitDefEqProofs [D49, box_str, h2]
def refI (i : Int) : DVal := if i < 0 then .tup [.int .i64 0, .bool false] else .tup [.int .i64 i, .bool true]
@[simp] theorem back_refI (σ : Sto) (i : Int) : (refI i).handBack σ = some (refI i) := by unfold refI; split <;> rfl
end Go.Proofs.YthpccimmmfonjaaGreatDoor
namespace Go.Proofs.YthpccimmmfonjaaGreatDoor
set_option linter.unusedVariables false
set_option linter.unusedSimpArgs false
set_option maxRecDepth 20000
set_option maxHeartbeats 4000000
open Go
def LvV.z : LvV := ⟨0, 0, by decide⟩
def CtxV.z : CtxV := ⟨0, 0, 0, LvV.z, LvV.z⟩
abbrev rngA (l h : LvV) : DVal := .agg [.int .i64 l.s, .int .u64 l.c, .int .i64 h.s, .int .u64 h.c]
abbrev ctxA (u r t : Int) (l h : LvV) : DVal := .agg [.int .i64 u, .int .i64 r, .int .i64 t, .int .i64 l.s, .int .u64 l.c, .int .i64 h.s, .int .u64 h.c]
def namedI (p : PolV) (a b c : Bs) : Int × Int × Int := (findI (userF a) p.users.l 0, findI (roleF b) p.roles.l 0, findI (typeF c) p.types.l 0)
def okI (x : Int × Int × Int) : Bool := decide (0 ≤ x.1) && decide (0 ≤ x.2.1) && decide (0 ≤ x.2.2)
def LPar (sens cats : List Bs) (s : Bs) (r : LvV × LvV × Int) : Prop := ∀ n z z', 24100 ≤ n → cpJ PR n 26 [.str s, strsD z sens, strsD z' cats] = some (.tup [rngA r.1 r.2.1, .int .i64 r.2.2])
theorem LvV.ext' {a b : LvV} (h1 : a.s = b.s) (h2 : (a.c : Int) = b.c) : a = b := by
  cases a; cases b
  simp only at h1 h2
  obtain rfl := h1
  obtain rfl := Int.ofNat_inj.1 h2
  rfl
structure Lev (sens cats : List Bs) : Prop where
  few : Few sens cats
  prop : propV sens cats = true
theorem names_dist {l : List Bs} : ∀ {pre rest : List Bs}, (∀ s ∈ rest, okName s = true) → (pre ++ rest).Nodup → distB pre rest = true
  | pre, [], _, _ => rfl
  | pre, s :: rest, h1, h2 => by
    rw [distB, h1 s (by simp)]
    have h3 : s ∉ pre := fun h => by
      have := (List.nodup_append.1 h2).2.2 s h s (by simp)
      exact this rfl
    have h4 := names_dist (l := l) (pre := pre ++ [s]) (rest := rest) (fun x hx => h1 x (by simp [hx])) (by simpa using h2)
    simp [h3, h4]
theorem Good'.lev {p : PolV} (g : Good' p) : Lev p.sens.l p.cats.l := by
  have h1 := g.small.sens
  have h2 := g.small.cats
  obtain ⟨c1, c2⟩ := g.cats
  have len : ∀ {s : Bs}, okName s = true → s.length ≤ 32 := fun h => by
    unfold okName at h
    simp only [Bool.and_eq_true, decide_eq_true_eq] at h
    exact h.1
  refine ⟨⟨by omega, by omega, fun s hs => ?_, fun s hs => ?_⟩, ?_⟩
  · have := len (c1.ok s hs); omega
  · have := len (c2.ok s hs); omega
  · have d1 := names_dist (l := []) (pre := []) c1.ok (by simpa using c1.nd)
    have d2 := names_dist (l := []) (pre := []) c2.ok (by simpa using c2.nd)
    have b1 : decide ((p.sens.l.length : Int) ≤ 16) = true := decide_eq_true (by omega)
    have b2 : decide ((p.cats.l.length : Int) ≤ 64) = true := decide_eq_true (by omega)
    simp [propV, properB, d1, d2, b1, b2]
theorem lpar_text {sens cats : List Bs} (L : Lev sens cats) (lo hi : LvV) (hV : rangeV lo.s lo.c hi.s hi.c sens.length cats.length = true) : LPar sens cats (textV sens cats lo.s lo.c hi.s hi.c) (lo, hi, 0) := by
  obtain ⟨hF, hP⟩ := L
  obtain ⟨s, c, hc⟩ := lo
  obtain ⟨s', c', hc'⟩ := hi
  intro n z z' hn
  simp only at hV ⊢
  have hr : Rok c c' := ⟨hc, hc'⟩
  have hdom : domV s' c' s c = true := by
    simp only [rangeV, Bool.and_eq_true] at hV; exact hV.2
  obtain ⟨⟨i, i', rfl, rfl, hi, hi'⟩, hb, hb'⟩ := range_facts hr hV
  have v1 := validL_back hP hi hb
  have v2 := validL_back hP hi' hb'
  have w1 := render_back (i := i) hP hb
  have w2 := render_back (i := i') hP hb'
  have q1 := levelV_back hP hi hr.lo hb
  have q2 := levelV_back hP hi' hr.hi hb'
  have b1 := lvT_len hF hi hb
  have b2 := lvT_len hF hi' hb'
  have p1 := parsedP_complete v1
  have p2 := parsedP_complete v2
  have d1 := dash_render v1
  rw [w1] at p1 d1
  rw [w2] at p2
  have h0 : errV (propV sens cats) (rangeV i c i' c' sens.length cats.length) = 0 := by rw [hP, hV]; rfl
  unfold textV
  rw [if_pos h0]
  by_cases e : (i : Int) = i' ∧ c = c'
  · obtain ⟨e1, rfl⟩ := e
    obtain rfl : i = i' := by omega
    simp only [if_true, and_self, Int.toNat_natCast]
    have hcut := cut_miss d1
    have hread : readP (lvT sens cats i c) = some (lvlL sens cats i c, ([], [])) := by
      unfold readP
      rw [hcut]
      simp only [p1, Bool.false_eq_true, if_false]
    obtain ⟨t', d', f', hd', q3⟩ := levelV_form sens cats [] []
    have h31 : ∀ m, 20100 ≤ m → cpJ PR m 56 [rtA (lvlL sens cats i c) ([], []), strsD z sens, strsD z' cats] = some (rgE i c i c 0) := fun m hm => by
      have := e56 (n := m) hm z z' .nil .nil hF (lvlL sens cats i c).1 [] (lvlL sens cats i c).2 [] (lvlL_few _ _ _ _) (by simp) i c 0 hr.lo q1 t' d' f' hd' q3
      simpa [rangeRV] using this
    exact e26g (n := n) (by omega) z z' hF (lvT sens cats i c) (by omega) (by rw [hcut]; exact b1) (by rw [hcut]; simp) hP hread (h31 (n - 1) (by omega))
  · rw [if_neg e]
    simp only [Int.toNat_natCast]
    have hcut := cut_hit (b := lvT sens cats i' c') d1
    have hread : readP (lvT sens cats i c ++ 45 :: lvT sens cats i' c') = some (lvlL sens cats i c, lvlL sens cats i' c') := by
      unfold readP
      rw [hcut]
      simp only [p1, p2, if_true]
    have hne : ¬ ((lvlL sens cats i' c').1 = [] ∧ (lvlL sens cats i' c').2 = []) := fun h => (wordP_iff.1 v2.1).2 h.1
    have h31 : ∀ m, 20100 ≤ m → cpJ PR m 56 [rtA (lvlL sens cats i c) (lvlL sens cats i' c'), strsD z sens, strsD z' cats] = some (rgE i c i' c' 0) := fun m hm => by
      have := e56 (n := m) hm z z' .nil .nil hF (lvlL sens cats i c).1 (lvlL sens cats i' c').1 (lvlL sens cats i c).2 (lvlL sens cats i' c').2 (lvlL_few _ _ _ _) (lvlL_few _ _ _ _) i c 0 hr.lo q1 i' c' 0 hr.hi q2
      simpa only [rangeRV, ne_eq, not_true_eq_false, if_false, if_neg hne, hdom, if_true] using this
    exact e26g (n := n) (by omega) z z' hF (lvT sens cats i c ++ 45 :: lvT sens cats i' c') (by simp; omega) (by rw [hcut]; exact b1) (by rw [hcut]; exact b2) hP hread (h31 (n - 1) (by omega))
def parseC (p : PolV) (s : Bs) (r : LvV × LvV × Int) : CtxV × Int :=
  if (partsV s).length = 4 then
    (fun x : Int × Int × Int => if okI x = true then (if r.2.2 = 0 then (if checkC p ⟨x.1, x.2.1, x.2.2, r.1, r.2.1⟩ = 0 then (⟨x.1, x.2.1, x.2.2, r.1, r.2.1⟩, 0) else (CtxV.z, checkC p ⟨x.1, x.2.1, x.2.2, r.1, r.2.1⟩)) else (CtxV.z, r.2.2)) else (CtxV.z, 11))
      (namedI p ((partsV s).getD 0 []) ((partsV s).getD 1 []) ((partsV s).getD 2 []))
  else (CtxV.z, 9)
theorem okI_iff {x : Int × Int × Int} : okI x = true ↔ ¬ x.1 < 0 ∧ ¬ x.2.1 < 0 ∧ ¬ x.2.2 < 0 := by
  simp only [okI, Bool.and_eq_true, decide_eq_true_eq]; omega
theorem get_D {l : List Bs} {i : Nat} (h : i < l.length) : l[i]? = some (l.getD i []) := by
  obtain ⟨x, hx⟩ := get_some h
  rw [List.getD_eq_getElem?_getD, hx]; rfl
section
variable {n : Nat} (hn : 1100000 ≤ n) (p : PolV) (g : Good' p) (s : Bs) (hs : s.length ≤ 1000000) (r : LvV × LvV × Int)
include hn g hs
theorem e20 (hr : (partsV s).length = 4 → LPar p.sens.l p.cats.l ((partsV s).getD 3 []) r) : cpJ PR n 20 [p.d, .str s] = some (.tup [(parseC p s r).1.d, .int .i64 (parseC p s r).2]) := by
  obtain ⟨n, rfl⟩ : ∃ m, n = m + 1 := ⟨n - 1, by omega⟩
  obtain ⟨z, h1⟩ := e46 (n := n) s hs (by omega)
  rw [u20]
  unfold parseC
  by_cases h4 : (partsV s).length = 4
  · have hR : cpJ PR n 26 [.str ((partsV s).getD 3 []), strs p.sens, strs p.cats] = some (.tup [rngA r.1 r.2.1, .int .i64 r.2.2]) := hr h4 n p.sens.z p.cats.z (by omega)
    rw [if_pos h4]
    rw [decide_eq_true h4] at h1
    have g0 := get_D (l := partsV s) (i := 0) (by omega)
    have g1 := get_D (l := partsV s) (i := 1) (by omega)
    have g2 := get_D (l := partsV s) (i := 2) (by omega)
    have g3 := get_D (l := partsV s) (i := 3) (by omega)
    generalize (partsV s).getD 0 [] = a at *
    generalize (partsV s).getD 1 [] = b at *
    generalize (partsV s).getD 2 [] = c at *
    generalize (partsV s).getD 3 [] = d at *
    have k1 := e47 (n := n) (by omega) p g.small a
    have k2 := e48 (n := n) (by omega) p g.small b
    have k3 := e49 (n := n) (by omega) p g.small c
    change _ = some (DVal.int .i64 (namedI p a b c).1) at k1
    change _ = some (DVal.int .i64 (namedI p a b c).2.1) at k2
    change _ = some (DVal.int .i64 (namedI p a b c).2.2) at k3
    generalize namedI p a b c = x at *
    obtain ⟨u, ro, t⟩ := x
    obtain ⟨lo, hi, f⟩ := r
    simp only at *
    have k4 : cpJ PR n 13 [p.d, ctxA u ro t lo hi] = some (.int .i64 (checkC p ⟨u, ro, t, lo, hi⟩)) := e13 (n := n) (by omega) p ⟨u, ro, t, lo, hi⟩
    by_cases hok : okI (u, ro, t) = true
    · rw [if_pos hok]
      obtain ⟨o1, o2, o3⟩ := okI_iff.1 hok
      simp only at o1 o2 o3
      by_cases hf : f = 0
      · subst hf
        rw [if_pos rfl]
        by_cases hc : checkC p ⟨u, ro, t, lo, hi⟩ = 0
        · rw [if_pos hc]
          rw [hc] at k4
          simp -implicitDefEqProofs [D20, h1, g0, g1, g2, g3, k1, k2, k3, k4, o1, o2, o3, hR]
          rfl
        · rw [if_neg hc]
          have hc' : (checkC p ⟨u, ro, t, lo, hi⟩ != 0) = true := by simpa using hc
          simp -implicitDefEqProofs [D20, h1, g0, g1, g2, g3, k1, k2, k3, k4, o1, o2, o3, hR, hc]
          rfl
      · rw [if_neg hf]
        simp -implicitDefEqProofs [D20, h1, g0, g1, g2, g3, k1, k2, k3, o1, o2, o3, hR, hf]
        rfl
    · rw [if_neg hok]
      have hok' : u < 0 ∨ (¬ u < 0 ∧ ro < 0) ∨ (¬ u < 0 ∧ ¬ ro < 0 ∧ t < 0) := by
        have : ¬ (¬ u < 0 ∧ ¬ ro < 0 ∧ ¬ t < 0) := fun h => hok (okI_iff.2 h)
        omega
      rcases hok' with o1 | ⟨o1, o2⟩ | ⟨o1, o2, o3⟩
      · simp -implicitDefEqProofs [D20, h1, g0, g1, g2, k1, k2, k3, o1]
        rfl
      · simp -implicitDefEqProofs [D20, h1, g0, g1, g2, k1, k2, k3, o1, o2]
        rfl
      · simp -implicitDefEqProofs [D20, h1, g0, g1, g2, k1, k2, k3, o1, o2, o3]
        rfl
  · rw [if_neg h4]
    rw [decide_eq_false h4] at h1
    simp -implicitDefEqProofs [D20, h1]
    rfl
end
def textC (p : PolV) (c : CtxV) : Bs :=
  if checkC p c = 0 then ((at' p.users.l c.user).map UserV.name).getD [] ++ 58 :: (((at' p.roles.l c.role).map RoleV.name).getD [] ++ 58 :: (((at' p.types.l c.type).map TypeV.name).getD [] ++ 58 :: textV p.sens.l p.cats.l c.lo.s c.lo.c c.hi.s c.hi.c)) else []
theorem okName_len {s : Bs} (h : okName s = true) : s.length ≤ 32 := by
  unfold okName at h
  simp only [Bool.and_eq_true, decide_eq_true_eq] at h
  exact h.1
structure CtxOk (p : PolV) (c : CtxV) where
  u : UserV
  r : RoleV
  t : TypeV
  iu : Nat
  ir : Nat
  it : Nat
  eu : c.user = iu
  er : c.role = ir
  et : c.type = it
  hu : p.users.l[iu]? = some u
  hr : p.roles.l[ir]? = some r
  ht : p.types.l[it]? = some t
  rng : rngV p c.lo c.hi = true
theorem at_get {α : Type} {l : List α} {i : Int} {x : α} (h : at' l i = some x) : ∃ j : Nat, i = j ∧ l[j]? = some x := by
  unfold at' at h
  split at h
  · exact ⟨i.toNat, by omega, h⟩
  · cases h
theorem check_ok {p : PolV} {c : CtxV} (h : checkC p c = 0) : Nonempty (CtxOk p c) := by
  unfold checkC at h
  split at h
  · rename_i u r t h1 h2 h3
    obtain ⟨i1, e1, g1⟩ := at_get h1
    obtain ⟨i2, e2, g2⟩ := at_get h2
    obtain ⟨i3, e3, g3⟩ := at_get h3
    split at h
    · rename_i hr
      exact ⟨⟨u, r, t, i1, i2, i3, e1, e2, e3, g1, g2, g3, hr⟩⟩
    · simp at h
  · simp at h
end Go.Proofs.YthpccimmmfonjaaGreatDoor
namespace Go.Proofs.YthpccimmmfonjaaGreatDoor
set_option linter.unusedVariables false
set_option linter.unusedSimpArgs false
set_option maxRecDepth 20000
set_option maxHeartbeats 4000000
open Go
theorem textV_len {sens cats : List Bs} (L : Lev sens cats) (lo hi : LvV) (hV : rangeV lo.s lo.c hi.s hi.c sens.length cats.length = true) : (textV sens cats lo.s lo.c hi.s hi.c).length ≤ 50000 := by
  obtain ⟨hF, hP⟩ := L
  obtain ⟨s, c, hc⟩ := lo
  obtain ⟨s', c', hc'⟩ := hi
  simp only at hV ⊢
  obtain ⟨⟨i, i', rfl, rfl, hi, hi'⟩, hb, hb'⟩ := range_facts (⟨hc, hc'⟩ : Rok c c') hV
  have b1 := lvT_len hF hi hb
  have b2 := lvT_len hF hi' hb'
  unfold textV
  split
  · simp only [Int.toNat_natCast]
    split
    · omega
    · simp; omega
  · simp
theorem Good'.uname {p : PolV} (g : Good' p) {u : UserV} {i : Nat} (h : p.users.l[i]? = some u) : okName u.name = true :=
  g.users.ok _ (List.mem_map.2 ⟨u, List.mem_of_getElem? h, rfl⟩)
theorem Good'.rname {p : PolV} (g : Good' p) {u : RoleV} {i : Nat} (h : p.roles.l[i]? = some u) : okName u.name = true :=
  g.roles.ok _ (List.mem_map.2 ⟨u, List.mem_of_getElem? h, rfl⟩)
theorem Good'.tname {p : PolV} (g : Good' p) {u : TypeV} {i : Nat} (h : p.types.l[i]? = some u) : okName u.name = true :=
  g.types.ok _ (List.mem_flatMap.2 ⟨u, List.mem_of_getElem? h, by simp⟩)
theorem textC_ok {p : PolV} {c : CtxV} (h : checkC p c = 0) (X : CtxOk p c) : textC p c = X.u.name ++ 58 :: (X.r.name ++ 58 :: (X.t.name ++ 58 :: textV p.sens.l p.cats.l c.lo.s c.lo.c c.hi.s c.hi.c)) := by
  have a1 : at' p.users.l c.user = some X.u := by rw [X.eu, at', if_pos (by omega), Int.toNat_natCast, X.hu]
  have a2 : at' p.roles.l c.role = some X.r := by rw [X.er, at', if_pos (by omega), Int.toNat_natCast, X.hr]
  have a3 : at' p.types.l c.type = some X.t := by rw [X.et, at', if_pos (by omega), Int.toNat_natCast, X.ht]
  unfold textC
  rw [if_pos h, a1, a2, a3]
  rfl
section
variable {n : Nat} (hn : 30000 ≤ n) (p : PolV) (g : Good' p) (c : CtxV)
include hn g
theorem e18 : cpJ PR n 18 [p.d, c.d] = some (.tup [.str (textC p c), .int .i64 (checkC p c)]) := by
  obtain ⟨n, rfl⟩ : ∃ m, n = m + 1 := ⟨n - 1, by omega⟩
  have h1 := e13 (n := n) (by omega) p c
  rw [u18]
  by_cases h : checkC p c = 0
  · obtain ⟨X⟩ := check_ok h
    rw [textC_ok h X]
    rw [h] at h1 ⊢
    have L := g.lev
    have hV : rangeV c.lo.s c.lo.c c.hi.s c.hi.c p.sens.l.length p.cats.l.length = true := X.rng
    have h2 : cpJ PR n 27 [rngD c.lo c.hi, strs p.sens, strs p.cats] = some (.tup [.str (textV p.sens.l p.cats.l c.lo.s c.lo.c c.hi.s c.hi.c), .int .i64 0]) := by
      have := e27 (n := n) (by omega) p.sens.z p.cats.z L.few c.lo.s c.lo.c c.hi.s c.hi.c ⟨c.lo.lt, c.hi.lt⟩
      rw [L.prop, hV] at this
      exact this
    have b1 := okName_len (g.uname X.hu)
    have b2 := okName_len (g.rname X.hr)
    have b3 := okName_len (g.tname X.ht)
    have b4 := textV_len L c.lo c.hi hV
    have x1 := X.hu
    have x2 := X.hr
    have x3 := X.ht
    have y1 := X.eu
    have y2 := X.er
    have y3 := X.et
    generalize X.u = u at *
    generalize X.r = r at *
    generalize X.t = t at *
    generalize textV p.sens.l p.cats.l c.lo.s c.lo.c c.hi.s c.hi.c = w at *
    obtain ⟨w1, hw1⟩ : ∃ x, x = u.name ++ [58] := ⟨_, rfl⟩
    obtain ⟨w2, hw2⟩ : ∃ x, x = w1 ++ r.name := ⟨_, rfl⟩
    obtain ⟨w3, hw3⟩ : ∃ x, x = w2 ++ [58] := ⟨_, rfl⟩
    obtain ⟨w4, hw4⟩ : ∃ x, x = w3 ++ t.name := ⟨_, rfl⟩
    obtain ⟨w5, hw5⟩ : ∃ x, x = w4 ++ [58] := ⟨_, rfl⟩
    have l1 : w1.length ≤ 33 := by rw [hw1]; simp; omega
    have l2 : w2.length ≤ 65 := by rw [hw2]; simp; omega
    have l3 : w3.length ≤ 66 := by rw [hw3]; simp; omega
    have l4 : w4.length ≤ 98 := by rw [hw4]; simp; omega
    have l5 : w5.length ≤ 99 := by rw [hw5]; simp; omega
    have c1 : binStr .add u.name [58] = some (.str w1) := by rw [hw1]; exact addS (by simp; omega)
    have c2 : binStr .add w1 r.name = some (.str w2) := by rw [hw2]; exact addS (by omega)
    have c3 : binStr .add w2 [58] = some (.str w3) := by rw [hw3]; exact addS (by simp; omega)
    have c4 : binStr .add w3 t.name = some (.str w4) := by rw [hw4]; exact addS (by omega)
    have c5 : binStr .add w4 [58] = some (.str w5) := by rw [hw5]; exact addS (by simp; omega)
    have c6 : binStr .add w5 w = some (.str (u.name ++ 58 :: (r.name ++ 58 :: (t.name ++ 58 :: w)))) := by
      rw [addS (by omega), hw5, hw4, hw3, hw2, hw1]; simp
    simp -implicitDefEqProofs [-binStr.eq_1, D18, h1, h2, x1, x2, x3, y1, y2, y3, c1, c2, c3, c4, c5, c6]
  · have e : textC p c = [] := by unfold textC; rw [if_neg h]
    rw [e]
    have h' : (checkC p c != 0) = true := by simpa using h
    simp -implicitDefEqProofs [D18, h1, h]
end
theorem build_ctx (C : CallP) : POp.sem C [] (.build [.int .i64 0, .int .i64 0, .int .i64 0, .int .i64 0, .int .u64 0, .int .i64 0, .int .u64 0] []) = some CtxV.z.d := rfl
end Go.Proofs.YthpccimmmfonjaaGreatDoor
namespace Go.Proofs.YthpccimmmfonjaaGreatDoor
set_option linter.unusedVariables false
set_option linter.unusedSimpArgs false
set_option maxRecDepth 20000
set_option maxHeartbeats 4000000
open Go
def ctxAt (u r t : Nat) (d : LvV) : CtxV := ⟨u, r, t, d, d⟩
def allT (p : PolV) (u r : Nat) (d : LvV) : Nat → Nat → List CtxV
  | _, 0 => []
  | t, k + 1 => (if checkC p (ctxAt u r t d) = 0 then [ctxAt u r t d] else []) ++ allT p u r d (t + 1) k
def allR (p : PolV) (u : Nat) (d : LvV) : Nat → Nat → List CtxV
  | _, 0 => []
  | r, k + 1 => allT p u r d 0 p.types.l.length ++ allR p u d (r + 1) k
def allU (p : PolV) : Nat → List UserV → List CtxV
  | _, [] => []
  | u, x :: l => allR p u x.dflt 0 p.roles.l.length ++ allU p (u + 1) l
def allC (p : PolV) : List CtxV := allU p 0 p.users.l
theorem allT_len {p : PolV} {u r : Nat} {d : LvV} : ∀ {k t : Nat}, (allT p u r d t k).length ≤ k
  | 0, t => by simp [allT]
  | k + 1, t => by
    have := allT_len (p := p) (u := u) (r := r) (d := d) (k := k) (t := t + 1)
    rw [allT, List.length_append]
    split <;> simp <;> omega
theorem allR_len {p : PolV} (hp : SmallP p) {u : Nat} {d : LvV} : ∀ {k r : Nat}, (allR p u d r k).length ≤ 12 * k
  | 0, r => by simp [allR]
  | k + 1, r => by
    have h1 := allR_len hp (u := u) (d := d) (k := k) (r := r + 1)
    have h2 := allT_len (p := p) (u := u) (r := r) (d := d) (k := p.types.l.length) (t := 0)
    have h3 := hp.types
    rw [allR, List.length_append]
    omega
abbrev crows (l : List CtxV) : List (List DVal) := l.map CtxV.row
theorem own_ctx {σ : Sto} {v : DVal} {L : List CtxV} (c : CtxV) (h : Own σ 7 v (crows L)) (hl : L.length ≤ 100000) : ∃ v' σ', app2Sem false 7 σ [v, .slice false 1 7 [c.row]] = some (v', σ') ∧ Own σ' 7 v' (crows (L ++ [c])) := by
  obtain ⟨v', σ', h1, h2⟩ := own_one (own := 1) (r := c.row) h (by simp; omega)
  exact ⟨v', σ', h1, by simpa [crows] using h2⟩
theorem bslice_ctx (C : CallP) (c : CtxV) : POp.sem C [c.d] (.bslice false 7) = some (.slice false 1 7 [c.row]) := by
  have h : sealCells c.d.cells = some c.row := rfl
  have h2 : c.d.cells.length = 7 := rfl
  simp [POp.sem, sealElems, h, h2]
section
variable {n : Nat} (hn : 2000 ≤ n) {p : PolV} (hp : SmallP p)
include hn hp
theorem l22_0 (u r : Nat) (d : LvV) (x : DVal) (hx : x = .int .i64 p.types.l.length) : ∀ (k i m : Nat) (L : List CtxV) (v : DVal) (σ : Sto), i + k = p.types.l.length → k < m → Own σ 7 v (crows L) → L.length + k ≤ 10000 → r + 1 ≤ 100 →
    ∃ v' σ', iterJ 2 (L22_0 (cpJ PR n) (ciJ PR n) n p.d (.int .i64 u) d.d (.int .i64 r) x) m [.int .i64 i, v] σ = some (.next 1 [.int .i64 ((r + 1 : Nat) : Int), v'] σ') ∧ Own σ' 7 v' (crows (L ++ allT p u r d i k)) := by
  subst hx
  intro k
  induction k with
  | zero =>
    intro i m L v σ hi hm hv hL hr
    obtain ⟨m, rfl⟩ : ∃ j, m = j + 1 := ⟨m - 1, by omega⟩
    have hi' : ¬ ((i : Int) < p.types.l.length) := by omega
    have hwr := wrap_succ (i := r) (by omega)
    refine ⟨v, σ, ?_, by simpa [allT] using hv⟩
    refine iterJ_out ?_ (by decide)
    simp -implicitDefEqProofs [L22_0, B22_0, hi']
    exact hwr
  | succ k ih =>
    intro i m L v σ hi hm hv hL hr
    obtain ⟨m, rfl⟩ : ∃ j, m = j + 1 := ⟨m - 1, by omega⟩
    have hlen := hp.types
    have hi' : ((i : Int) < p.types.l.length) := by omega
    have hwr := wrap_i (by omega : i < p.types.l.length) (by unfold maxLen; omega)
    have h1 : cpJ PR n 13 [p.d, ctxA u r i d d] = some (.int .i64 (checkC p (ctxAt u r i d))) := e13 (n := n) (by omega) p (ctxAt u r i d)
    rw [allT]
    by_cases hc : checkC p (ctxAt u r i d) = 0
    · rw [if_pos hc]
      rw [hc] at h1
      obtain ⟨v1, σ1, h2, h3⟩ := own_ctx (ctxAt u r i d) hv (by omega)
      have h4 : POp.sem (cpJ PR n) [ctxA u r i d d] (.bslice false 7) = some (.slice false 1 7 [(ctxAt u r i d).row]) := bslice_ctx _ (ctxAt u r i d)
      obtain ⟨v', σ', h5, h6⟩ := ih (i + 1) m (L ++ [ctxAt u r i d]) v1 σ1 (by omega) (by omega) h3 (by simp; omega) hr
      refine ⟨v', σ', ?_, by simpa using h6⟩
      rw [← h5]
      refine iterJ_next' ?_
      simp -implicitDefEqProofs [L22_0, B22_0, hi', hwr, h1, h2, h4, LvV.d, LvV.row, -POp.sem.eq_18]
    · rw [if_neg hc]
      obtain ⟨v', σ', h5, h6⟩ := ih (i + 1) m L v σ (by omega) (by omega) hv (by omega) hr
      refine ⟨v', σ', ?_, by simpa using h6⟩
      rw [← h5]
      refine iterJ_next' ?_
      simp -implicitDefEqProofs [L22_0, B22_0, hi', hwr, h1, hc, LvV.d, LvV.row]
theorem l22_1 (u : Nat) (d : LvV) (x : DVal) (hx : x = .int .i64 p.roles.l.length) (hu : u + 1 ≤ 100) (hm0 : 1000 ≤ n) : ∀ (k i m : Nat) (L : List CtxV) (v : DVal) (σ : Sto), i + k = p.roles.l.length → k < m → Own σ 7 v (crows L) → L.length + 12 * k ≤ 5000 →
    ∃ v' σ', iterJ 1 (L22_1 (cpJ PR n) (ciJ PR n) n p.d (.int .i64 u) d.d x) m [.int .i64 i, v] σ = some (.next 0 [.int .i64 ((u + 1 : Nat) : Int), v'] σ') ∧ Own σ' 7 v' (crows (L ++ allR p u d i k)) := by
  subst hx
  intro k
  induction k with
  | zero =>
    intro i m L v σ hi hm hv hL
    obtain ⟨m, rfl⟩ : ∃ j, m = j + 1 := ⟨m - 1, by omega⟩
    have hi' : ¬ ((i : Int) < p.roles.l.length) := by omega
    have hwr := wrap_succ (i := u) (by omega)
    refine ⟨v, σ, ?_, by simpa [allR] using hv⟩
    refine iterJ_out ?_ (by decide)
    simp -implicitDefEqProofs [L22_1, B22_1, hi']
    exact hwr
  | succ k ih =>
    intro i m L v σ hi hm hv hL
    obtain ⟨m, rfl⟩ : ∃ j, m = j + 1 := ⟨m - 1, by omega⟩
    have hlen := hp.roles
    have hlen2 := hp.types
    have hi' : ((i : Int) < p.roles.l.length) := by omega
    obtain ⟨v1, σ1, h1, h2⟩ := l22_0 hn hp u i d (.int .i64 p.types.l.length) rfl p.types.l.length 0 n L v σ (by omega) (by omega) hv (by omega) (by omega)
    have hla := allT_len (p := p) (u := u) (r := i) (d := d) (k := p.types.l.length) (t := 0)
    obtain ⟨v', σ', h5, h6⟩ := ih (i + 1) m (L ++ allT p u i d 0 p.types.l.length) v1 σ1 (by omega) (by omega) h2 (by rw [List.length_append]; omega)
    refine ⟨v', σ', ?_, by rw [allR]; simpa using h6⟩
    rw [← h5]
    refine iterJ_next' ?_
    simp only [Int.natCast_zero] at h1
    simp -implicitDefEqProofs [L22_1, B22_1, hi', h1]
theorem l22_2 (x : DVal) (hx : x = .int .i64 p.users.l.length) : ∀ (k i m : Nat) (L : List CtxV) (v : DVal) (σ : Sto), i + k = p.users.l.length → k < m → Own σ 7 v (crows L) → L.length + 96 * k ≤ 1000 →
    ∃ v' σ', iterJ 0 (L22_2 (cpJ PR n) (ciJ PR n) n p.d x) m [.int .i64 i, v] σ = some (.done v' σ') ∧ Own σ' 7 v' (crows (L ++ allU p i (p.users.l.drop i))) := by
  subst hx
  intro k
  induction k with
  | zero =>
    intro i m L v σ hi hm hv hL
    obtain ⟨m, rfl⟩ : ∃ j, m = j + 1 := ⟨m - 1, by omega⟩
    have hi' : ¬ ((i : Int) < p.users.l.length) := by omega
    refine ⟨v, σ, ?_, by rw [List.drop_eq_nil_of_le (by omega)]; simpa [allU] using hv⟩
    refine iterJ_done ?_
    simp -implicitDefEqProofs [L22_2, B22_2, hi', own_okVal hv]
  | succ k ih =>
    intro i m L v σ hi hm hv hL
    obtain ⟨m, rfl⟩ : ∃ j, m = j + 1 := ⟨m - 1, by omega⟩
    have hlen := hp.users
    have hlen2 := hp.roles
    have hi' : ((i : Int) < p.users.l.length) := by omega
    obtain ⟨y, hy⟩ := get_some (by omega : i < p.users.l.length)
    obtain ⟨v1, σ1, h1, h2⟩ := l22_1 hn hp i y.dflt (.int .i64 p.roles.l.length) rfl (by omega) (by omega) p.roles.l.length 0 n L v σ (by omega) (by omega) hv (by omega)
    have hla := allR_len hp (u := i) (d := y.dflt) (k := p.roles.l.length) (r := 0)
    obtain ⟨v', σ', h5, h6⟩ := ih (i + 1) m (L ++ allR p i y.dflt 0 p.roles.l.length) v1 σ1 (by omega) (by omega) h2 (by rw [List.length_append]; omega)
    refine ⟨v', σ', ?_, by rw [drop_get hy, allU]; simpa using h6⟩
    rw [← h5]
    refine iterJ_next' ?_
    simp only [Int.natCast_zero] at h1
    have h7 : jwrSem 0 2 [.agg [.int .i64 0, .int .u64 0], y.dflt.d] = some y.dflt.d := LvV_wr y.dflt _ _
    simp -implicitDefEqProofs [L22_2, B22_2, hi', hy, h1]
end
theorem e22 {n : Nat} (hn : 2100 ≤ n) {p : PolV} (hp : SmallP p) : ∃ v, cpJ PR n 22 [p.d] = some v ∧ Fresh 7 v (crows (allC p)) := by
  obtain ⟨n, rfl⟩ : ∃ m, n = m + 1 := ⟨n - 1, by omega⟩
  have hlen := hp.users
  obtain ⟨v, σ, h1, h2⟩ := l22_2 (n := n) (by omega) hp (.int .i64 p.users.l.length) rfl p.users.l.length 0 n [] .nils emptySto (by omega) (by omega) (own_nils _ _) (by simp; omega)
  simp only [Int.natCast_zero, List.nil_append, List.drop_zero] at h1 h2
  obtain ⟨u, h3, h4⟩ := own_back h2
  refine ⟨u, ?_, h4⟩
  rw [u22]
  simp -implicitDefEqProofs [D22, h1, h3]
def initL (s : Bs) : List SidV → CtxV × Bool
  | [] => (CtxV.z, false)
  | x :: l => if x.name = s then (x.ctx, true) else initL s l
def initD (x : CtxV × Bool) : DVal := .tup [x.1.d, .bool x.2]
theorem l24 {n : Nat} (p : PolV) (s : Bs) (hl : p.sids.l.length ≤ 1000) (σ : Sto) (x : DVal) (hx : x = .int .i64 p.sids.l.length) : ∀ (k i m : Nat) (b : DVal), i + k = p.sids.l.length → k < m →
    iterJ 0 (L24_0 (cpJ PR n) (ciJ PR n) n (.str s) (slOf 8 SidV.row p.sids) x) m [.int .i64 i, b, CtxV.z.d] σ = some (.done (initD (initL s (p.sids.l.drop i))) σ) := by
  subst hx
  intro k
  induction k with
  | zero =>
    intro i m b hi hm
    obtain ⟨m, rfl⟩ : ∃ j, m = j + 1 := ⟨m - 1, by omega⟩
    have hi' : ¬ ((i : Int) < p.sids.l.length) := by omega
    rw [List.drop_eq_nil_of_le (by omega)]
    have h1 := build_ctx (cpJ PR n)
    refine iterJ_done ?_
    simp -implicitDefEqProofs [L24_0, B24_0, hi', initL, initD, h1, -POp.sem.eq_17]
  | succ k ih =>
    intro i m b hi hm
    obtain ⟨m, rfl⟩ : ∃ j, m = j + 1 := ⟨m - 1, by omega⟩
    have hi' : ((i : Int) < p.sids.l.length) := by omega
    obtain ⟨y, hy⟩ := get_some (by omega : i < p.sids.l.length)
    have hwr := wrap_i (by omega : i < p.sids.l.length) (by unfold maxLen; omega)
    rw [drop_get hy, initL]
    by_cases hf : y.name = s
    · rw [if_pos hf]
      refine iterJ_done ?_
      simp -implicitDefEqProofs [L24_0, B24_0, hi', hy, hwr, hf, initD]
    · rw [if_neg hf, ← ih (i + 1) m b (by omega) (by omega)]
      refine iterJ_next' ?_
      simp -implicitDefEqProofs [L24_0, B24_0, hi', hy, hwr, hf]
theorem zctx : DVal.agg [.int .i64 0, .int .i64 0, .int .i64 0, .int .i64 0, .int .u64 0, .int .i64 0, .int .u64 0] = CtxV.z.d := rfl
theorem e24 {n : Nat} (hn : 1100 ≤ n) {p : PolV} (hp : SmallP p) (s : Bs) : cpJ PR n 24 [p.d, .str s] = some (initD (initL s p.sids.l)) := by
  obtain ⟨n, rfl⟩ : ∃ m, n = m + 1 := ⟨n - 1, by omega⟩
  have hlen := hp.sids
  have h1 := l24 (n := n) p s (by omega) emptySto (.int .i64 p.sids.l.length) rfl p.sids.l.length 0 n (.bool false) (by omega) (by omega)
  simp only [Int.natCast_zero, List.drop_zero] at h1
  rw [u24]
  simp -implicitDefEqProofs [D24, zctx, h1, initD]
end Go.Proofs.YthpccimmmfonjaaGreatDoor
namespace Go.Proofs.YthpccimmmfonjaaGreatDoor
set_option linter.unusedVariables false
set_option linter.unusedSimpArgs false
set_option maxRecDepth 20000
set_option maxHeartbeats 8000000
open Go
def setL : List Nat → SetV → SetV
  | [], s => s
  | k :: l, s => setL l (withS s k)
abbrev irows (l : List Nat) : List (List DVal) := l.map fun (k : Nat) => [DVal.int .i64 (k : Int)]
theorem l80 {n : Nat} (l : List Nat) (hl : l.length ≤ 1000) (hk : ∀ k ∈ l, k < 256) : ∀ (j i m : Nat) (s : SetV) (σ : Sto), i + j = l.length → j < m → σ.obj 0 = s.d → 0 < σ.nobj →
    ∃ σ', iterJ 0 (L80_0 (cpJ PR n) (ciJ PR n) n (.slice false 1 1 (irows l)) (.obj 0 0)) m [.int .i64 i] σ = some (.done (setL (l.drop i) s).d σ') := by
  intro j
  induction j with
  | zero =>
    intro i m s σ hi hm hs h0
    obtain ⟨m, rfl⟩ : ∃ q, m = q + 1 := ⟨m - 1, by omega⟩
    have hi' : ¬ ((i : Int) < l.length) := by omega
    have h1 : ldOSem σ (some 4) [.obj 0 0] = some (s.d, σ) := by
      rw [ld_obj (some 4) hs h0]; rfl
    refine ⟨σ, iterJ_done ?_⟩
    rw [List.drop_eq_nil_of_le (by omega)]
    simp -implicitDefEqProofs [L80_0, B80_0, hi', h1, setL]
  | succ j ih =>
    intro i m s σ hi hm hs h0
    obtain ⟨m, rfl⟩ : ∃ q, m = q + 1 := ⟨m - 1, by omega⟩
    have hi' : ((i : Int) < l.length) := by omega
    obtain ⟨k, hk0⟩ := get_some (by omega : i < l.length)
    have hkl := hk k (List.mem_of_getElem? hk0)
    have hwr : IntKind.i64.wrap ((i : Int) + 1) = (i : Int) + 1 := wrap_i64 (by omega) (by omega)
    have h1 := ld_arr (σ := σ) (id := 0) (n := 4) (i := k / 64) (f := fun i => .int .u64 (s.w i)) hs h0 (by omega)
    have h2 := idx_arr (id := 0) (j := k / 64) (by omega)
    have h3 := wrap_pow (k := k % 64) (by omega)
    have h4 : ¬ (((k % 64 : Nat) : Int) < 0) := by omega
    have h5 : min (k % 64) 64 = k % 64 := by omega
    have h6 := or_nat (s.w (k / 64)) (2 ^ (k % 64)) (s.lt _) (pow_lt' (Nat.mod_lt _ (by decide)))
    have h7 := st_arr (σ := σ) (id := 0) (n := 4) (i := k / 64) (f := fun i => .int .u64 (s.w i)) (v := .int .u64 ((s.w (k / 64) ||| 2 ^ (k % 64) : Nat) : Int)) hs h0 (by omega) rfl rfl
    have e : arrD 4 (upd (fun i => DVal.int .u64 (s.w i)) (k / 64) (.int .u64 ((s.w (k / 64) ||| 2 ^ (k % 64) : Nat) : Int))) = (withS s k).d := by
      rw [SetV.d_arr]
      congr 1
      funext i
      simp only [upd, withS]
      split <;> rfl
    rw [e] at h7
    obtain ⟨σ', h8⟩ := ih (i + 1) m (withS s k) (σ.put 0 (withS s k).d) (by omega) (by omega) (by simp) (by simpa using h0)
    refine ⟨σ', ?_⟩
    rw [drop_get hk0, setL, ← h8]
    refine iterJ_next' ?_
    have hq : idxSSem 1 [.slice false 1 1 (irows l), .int .i64 (i : Int)] = some (.elem [.int .i64 (k : Int)] 0) := by
      simp [idxSSem, hk0]
    have hlen : lenSlSem [.slice false 1 1 (irows l)] = some (.int .i64 (l.length : Int)) := by simp [lenSlSem, goI]
    have hd := wrap_div k hkl
    have hd' : (k : Int).tdiv 64 = (k : Int) / 64 := Int.tdiv_eq_ediv_of_nonneg (by omega)
    simp -implicitDefEqProofs [L80_0, B80_0, hi', hq, hlen, hwr, hd, hd', h1, h2, h3, h4, h5, h6, h7, tmod_nat, IntKind.bits, -Int.natCast_emod, -Int.natCast_ediv, -Int.natCast_pow, -idxASem.eq_1, -idxSSem.eq_1, -lenSlSem.eq_2]
theorem e80 {n : Nat} (hn : 2000 ≤ n) (l : List Nat) (hl : l.length ≤ 1000) (hk : ∀ k ∈ l, k < 256) : cpJ PR n 80 [.slice false 1 1 (irows l)] = some (setL l SetV.zero).d := by
  obtain ⟨n, rfl⟩ : ∃ m, n = m + 1 := ⟨n - 1, by omega⟩
  obtain ⟨σ', h1⟩ := l80 (n := n) l hl hk l.length 0 n SetV.zero (emptySto.new SetV.zero.d) (by omega) (by omega) rfl (by simp [emptySto])
  simp only [Int.natCast_zero, List.drop_zero] at h1
  have h2 : allocOSem emptySto [.int .u64 0, .int .u64 0, .int .u64 0, .int .u64 0] [] = some (.obj 0 0, emptySto.new SetV.zero.d) := rfl
  rw [u80]
  simp -implicitDefEqProofs [D80, h1, h2]
def initC : CtxV := ⟨0, 1, 0, ⟨0, 0, by decide⟩, ⟨0, 0, by decide⟩⟩
def fileC : CtxV := ⟨0, 0, 2, ⟨0, 0, by decide⟩, ⟨0, 0, by decide⟩⟩
theorem e37 {n : Nat} (hn : 1 ≤ n) : cpJ PR n 37 [] = some initC.d := by
  obtain ⟨n, rfl⟩ : ∃ m, n = m + 1 := ⟨n - 1, by omega⟩
  rw [u37]
  simp -implicitDefEqProofs [D37]
  rfl
theorem e81 {n : Nat} (hn : 1 ≤ n) : cpJ PR n 81 [] = some fileC.d := by
  obtain ⟨n, rfl⟩ : ∃ m, n = m + 1 := ⟨n - 1, by omega⟩
  rw [u81]
  simp -implicitDefEqProofs [D81]
  rfl
def set1 (w : Nat) (h : w < 18446744073709551616 := by decide) : SetV := ⟨fun i => if i = 0 then w else 0, fun i => by split <;> first | exact h | decide⟩
abbrev seA (w : Nat) : DVal := .agg [.int .u64 (w : Int), .int .u64 0, .int .u64 0, .int .u64 0]
def lv0 : LvV := ⟨0, 0, by decide⟩
def sampleP : PolV where
  classes := ⟨.lit, [⟨[112, 114, 111, 99, 101, 115, 115], ⟨.lit, [[102, 111, 114, 107], [116, 114, 97, 110, 115, 105, 116, 105, 111, 110], [100, 121, 110, 116, 114, 97, 110, 115, 105, 116, 105, 111, 110], [115, 101, 110, 100]]⟩⟩,
    ⟨[102, 105, 108, 101], ⟨.lit, [[114, 101, 97, 100], [119, 114, 105, 116, 101], [99, 114, 101, 97, 116, 101], [117, 110, 108, 105, 110, 107], [101, 120, 101, 99, 117, 116, 101], [101, 110, 116, 114, 121, 112, 111, 105, 110, 116], [114, 101, 108, 97, 98, 101, 108, 102, 114, 111, 109], [114, 101, 108, 97, 98, 101, 108, 116, 111]]⟩⟩, ⟨[100, 105, 114], ⟨.lit, [[114, 101, 97, 100], [119, 114, 105, 116, 101], [99, 114, 101, 97, 116, 101], [117, 110, 108, 105, 110, 107], [97, 100, 100], [114, 101, 109, 111, 118, 101], [114, 101, 108, 97, 98, 101, 108, 102, 114, 111, 109], [114, 101, 108, 97, 98, 101, 108, 116, 111]]⟩⟩]⟩
  types := ⟨.lit, [⟨[105, 110, 105, 116, 95, 116], ⟨.nil, []⟩, false⟩, ⟨[117, 115, 101, 114, 95, 116], ⟨.nil, []⟩, false⟩, ⟨[102, 105, 108, 101, 95, 116], ⟨.nil, []⟩, false⟩, ⟨[115, 104, 101, 108, 108, 95, 116], ⟨.nil, []⟩, false⟩]⟩
  attrs := ⟨.lit, [⟨[100, 111, 109, 97, 105, 110], set1 3⟩]⟩
  roles := ⟨.lit, [⟨[111, 98, 106, 101, 99, 116, 95, 114], set1 0, set1 0⟩, ⟨[115, 121, 115, 116, 101, 109], set1 3, set1 0⟩]⟩
  users := ⟨.lit, [⟨[114, 111, 111, 116], set1 2, lv0, lv0, lv0⟩]⟩
  bools := ⟨.lit, [⟨[115, 104, 97, 114, 101], false⟩]⟩
  sens := ⟨.lit, [[115, 48]]⟩
  cats := ⟨.nil, []⟩
  conds := ⟨.lit, [.mk 1 0 0 0 ⟨.nil, []⟩ (set1 0) .nil []]⟩
  rules := ⟨.lit, [⟨1, set1 3, set1 0, true, 0, 9, 0, by decide⟩, ⟨1, set1 1, set1 12, false, 1, 17, 0, by decide⟩, ⟨1, set1 1, set1 2, false, 0, 2, 0, by decide⟩, ⟨1, set1 2, set1 8, false, 1, 32, 0, by decide⟩, ⟨1, set1 2, set1 4, false, 1, 1, 1, by decide⟩]⟩
  trans := ⟨.lit, [⟨1, set1 1, set1 8, 0, [], 1, 0⟩]⟩
  roleTrans := ⟨.nil, []⟩
  ranges := ⟨.nil, []⟩
  constrs := ⟨.nil, []⟩
  sids := ⟨.lit, [⟨[107, 101, 114, 110, 101, 108], initC⟩, ⟨[114, 111, 111, 116], fileC⟩, ⟨[117, 110, 108, 97, 98, 101, 108, 101, 100], fileC⟩]⟩
  files := ⟨.nil, []⟩
  asserts := ⟨.nil, []⟩
theorem e36 {n : Nat} (hn : 2001 ≤ n) : cpJ PR n 36 [] = some sampleP.d := by
  obtain ⟨n, rfl⟩ : ∃ m, n = m + 1 := ⟨n - 1, by omega⟩
  have a0 : cpJ PR n 80 [.slice false 1 1 [[.int .i64 0]]] = some (seA 1) := e80 (n := n) (by omega) [0] (by decide) (by decide)
  have a1 : cpJ PR n 80 [.slice false 1 1 [[.int .i64 1]]] = some (seA 2) := e80 (n := n) (by omega) [1] (by decide) (by decide)
  have a2 : cpJ PR n 80 [.slice false 1 1 [[.int .i64 2]]] = some (seA 4) := e80 (n := n) (by omega) [2] (by decide) (by decide)
  have a3 : cpJ PR n 80 [.slice false 1 1 [[.int .i64 3]]] = some (seA 8) := e80 (n := n) (by omega) [3] (by decide) (by decide)
  have a4 : cpJ PR n 80 [.slice false 1 1 [[.int .i64 0], [.int .i64 1]]] = some (seA 3) := e80 (n := n) (by omega) [0, 1] (by decide) (by decide)
  have a5 : cpJ PR n 80 [.slice false 1 1 [[.int .i64 2], [.int .i64 3]]] = some (seA 12) := e80 (n := n) (by omega) [2, 3] (by decide) (by decide)
  have b1 : cpJ PR n 37 [] = some (.agg [.int .i64 0, .int .i64 1, .int .i64 0, .int .i64 0, .int .u64 0, .int .i64 0, .int .u64 0]) := e37 (by omega)
  have b2 : cpJ PR n 81 [] = some (.agg [.int .i64 0, .int .i64 0, .int .i64 2, .int .i64 0, .int .u64 0, .int .i64 0, .int .u64 0]) := e81 (by omega)
  rw [u36]
  simp -implicitDefEqProofs [D36, a0, a1, a2, a3, a4, a5, b1, b2]
  rfl
end Go.Proofs.YthpccimmmfonjaaGreatDoor
namespace Go.Proofs.YthpccimmmfonjaaGreatDoor
set_option linter.unusedVariables false
set_option linter.unusedSimpArgs false
set_option maxRecDepth 100000
set_option maxHeartbeats 8000000
open Go
theorem sample_good : Good' sampleP where
  types := ⟨by decide, by decide, by simp⟩
  roles := ⟨rfl, by decide, by decide⟩
  users := ⟨by decide, by decide, by simp⟩
  cats := ⟨⟨by decide, by decide, by simp⟩, ⟨by decide, by decide, by simp⟩⟩
  small := ⟨by decide, by decide, by decide, by decide, by decide, by decide, by decide, by decide, by decide, by decide, by decide, by decide, by decide, by decide, by decide, by decide, by decide, by decide⟩
theorem s0_range : LPar sampleP.sens.l sampleP.cats.l [115, 48] (lv0, lv0, 0) := by
  have h := lpar_text sample_good.lev lv0 lv0 (by decide)
  have e : textV sampleP.sens.l sampleP.cats.l lv0.s lv0.c lv0.s lv0.c = [115, 48] := by kernel_rfl
  rwa [e] at h
section
variable {n : Nat} (hn : 1200000 ≤ n)
include hn
theorem al_parse (s : Bs) (hs : s.length ≤ 1000) (h4 : (partsV s).length = 4 → (partsV s).getD 3 [] = [115, 48]) {c : CtxV} {e : Int} (h : parseC sampleP s (lv0, lv0, 0) = (c, e)) :
    cpJ PR n 20 [sampleP.d, .str s] = some (.tup [c.d, .int .i64 e]) := by
  have := e20 (n := n) (by omega) sampleP sample_good s (by omega) (lv0, lv0, 0) fun h => by rw [h4 h]; exact s0_range
  rwa [h] at this
theorem e12 : cpJ PR (n + 1) 12 [] = some (.bool true) := by
  have h1 := e36 (n := n) (by omega)
  have h2 := e37 (n := n) (by omega)
  have h3 := e18 (n := n) (by omega) sampleP sample_good initC
  have t3 : textC sampleP initC = [114, 111, 111, 116, 58, 115, 121, 115, 116, 101, 109, 58, 105, 110, 105, 116, 95, 116, 58, 115, 48] := by kernel_rfl
  have c3 : checkC sampleP initC = 0 := by kernel_rfl
  rw [t3, c3] at h3
  have h4 := al_parse hn [114, 111, 111, 116, 58, 111, 98, 106, 101, 99, 116, 95, 114, 58, 115, 104, 101, 108, 108, 95, 116, 58, 115, 48] (by decide) (fun _ => by kernel_rfl) (c := ⟨0, 0, 3, lv0, lv0⟩) (e := 0) (by kernel_rfl)
  have h5 := al_parse hn [114, 111, 111, 116, 58, 115, 121, 115, 116, 101, 109, 58, 102, 105, 108, 101, 95, 116, 58, 115, 48] (by decide) (fun _ => by kernel_rfl) (c := CtxV.z) (e := 19) (by kernel_rfl)
  have h6 := al_parse hn [114, 111, 111, 116, 58, 115, 121, 115, 116, 101, 109, 58, 120, 58, 115, 48] (by decide) (fun _ => by kernel_rfl) (c := CtxV.z) (e := 11) (by kernel_rfl)
  have h7 := al_parse hn [114, 111, 111, 116, 58, 115, 121, 115, 116, 101, 109] (by decide) (fun h => absurd h (by decide)) (c := CtxV.z) (e := 9) (by kernel_rfl)
  have h8 := e24 (n := n) (by omega) sample_good.small [107, 101, 114, 110, 101, 108]
  have i8 : initL [107, 101, 114, 110, 101, 108] sampleP.sids.l = (initC, true) := by kernel_rfl
  rw [i8] at h8
  unfold initD at h8
  simp only at h8
  have h9 := e15 (n := n) (by omega) ⟨0, 0, 3, lv0, lv0⟩
  have o9 : (((⟨0, 0, 3, lv0, lv0⟩ : CtxV).role == 0) : Bool) = true := rfl
  rw [o9] at h9
  obtain ⟨v, h10, hv⟩ := e22 (n := n) (by omega) sample_good.small
  obtain ⟨z, hz⟩ := fresh_stale hv
  have h11 : lenSlSem [slD z 7 (crows (allC sampleP))] = some (.int .i64 6) := by
    have : (allC sampleP).length = 6 := by kernel_rfl
    simp [this]
  generalize slD z 7 (crows (allC sampleP)) = w at *
  obtain ⟨q, h12, h12'⟩ := ctx_beq initC initC
  have h13 := e17 (n := n) (by omega) initC initC h12
  rw [h12'.2 rfl] at h13
  have j1 : jwrSem 0 17 [.agg [.nils, .nils, .nils, .nils, .nils, .nils, .nils, .nils, .nils, .nils, .nils, .nils, .nils, .nils, .nils, .nils, .nils], sampleP.d] = some sampleP.d := by kernel_rfl
  have j2 : ∀ c : CtxV, jwrSem 0 7 [.agg [.int .i64 0, .int .i64 0, .int .i64 0, .int .i64 0, .int .u64 0, .int .i64 0, .int .u64 0], c.d] = some c.d := fun c => by simp
  generalize hc4 : (⟨0, 0, 3, lv0, lv0⟩ : CtxV) = c4 at *
  generalize CtxV.z = c0 at *
  generalize initC = ci at *
  generalize sampleP = P at *
  rw [u12]
  simp -implicitDefEqProofs [D12, h1, h2, h3, h4, h5, h6, h7, h8, h9, h10, h11, h13, hz, j1]
end
theorem alive_true {n : Nat} (hn : 1200001 ≤ n) : cpJ PR n 12 [] = some (.bool true) := by
  obtain ⟨n, rfl⟩ : ∃ m, n = m + 1 := ⟨n - 1, by omega⟩
  exact e12 (by omega)
end Go.Proofs.YthpccimmmfonjaaGreatDoor
namespace Go.Proofs.YthpccimmmfonjaaGreatDoor
set_option linter.unusedVariables false
set_option linter.unusedSimpArgs false
set_option maxRecDepth 20000
set_option maxHeartbeats 4000000
open Go
theorem wr_left {A R new B : List DVal} {o : Nat} (h : o + new.length ≤ A.length) (hw : writeCells A o new = some B) : writeCells (A ++ R) o new = some (B ++ R) := by
  unfold writeCells at hw ⊢
  rw [if_pos h] at hw
  simp only [Option.some.injEq] at hw
  subst hw
  rw [if_pos (by simp; omega), List.take_append_of_le_length (by omega), List.drop_append_of_le_length h]
  simp [List.append_assoc]
theorem wr_right {A R new B : List DVal} {o : Nat} (hw : writeCells R o new = some B) : writeCells (A ++ R) (A.length + o) new = some (A ++ B) := by
  unfold writeCells at hw ⊢
  split at hw
  · rename_i h
    simp only [Option.some.injEq] at hw
    subst hw
    rw [if_pos (by simp; omega), List.take_length_add_append, Nat.add_assoc, List.drop_length_add_append]
    simp [List.append_assoc]
  · cases hw
section
variable {α : Type} {f : α → List DVal} {k : Nat} (hf : ∀ a, (f a).length = k)
include hf
theorem wr_flat {o : Nat} {new : List DVal} (ho : o + new.length ≤ k) : ∀ {l : List α} {i : Nat} {x y : α}, l[i]? = some x → writeCells (f x) o new = some (f y) → writeCells (l.map f).flatten (i * k + o) new = some ((l.set i y).map f).flatten
  | [], i, x, y, h, _ => by simp at h
  | a :: l, 0, x, y, h, hw => by
    simp only [List.getElem?_cons_zero, Option.some.injEq] at h
    subst h
    simp only [List.map_cons, List.flatten_cons, Nat.zero_mul, Nat.zero_add, List.set_cons_zero]
    exact wr_left (by rw [hf]; exact ho) hw
  | a :: l, i + 1, x, y, h, hw => by
    have := wr_right (A := f a) (wr_flat ho (l := l) (i := i) (by simpa using h) hw)
    rw [hf] at this
    simp only [List.map_cons, List.flatten_cons, List.set_cons_succ]
    rw [show (i + 1) * k + o = k + (i * k + o) by rw [Nat.add_mul, Nat.one_mul]; omega]
    exact this
theorem rd_flat {o m : Nat} (ho : o + m ≤ k) : ∀ {l : List α} {i : Nat} {x : α}, l[i]? = some x → readCells (l.map f).flatten (i * k + o) (some m) = readCells (f x) o (some m)
  | [], i, x, h => by simp at h
  | a :: l, 0, x, h => by
    simp only [List.getElem?_cons_zero, Option.some.injEq] at h
    subst h
    have hl := hf a
    simp only [List.map_cons, List.flatten_cons, Nat.zero_mul, Nat.zero_add, readCells]
    rw [if_pos (by simp; omega), if_pos (by omega), List.drop_append_of_le_length (by omega), List.take_append_of_le_length (by simp; omega)]
  | a :: l, i + 1, x, h => by
    have := rd_flat ho (l := l) (i := i) (by simpa using h)
    rw [← this]
    have hl := hf a
    simp only [List.map_cons, List.flatten_cons, readCells]
    rw [show (i + 1) * k + o = (f a).length + (i * k + o) by rw [hl, Nat.add_mul, Nat.one_mul]; omega, List.drop_length_add_append, List.length_append]
    by_cases hc : i * k + o + m ≤ (List.map f l).flatten.length
    · rw [if_pos hc, if_pos (by omega)]
    · rw [if_neg hc, if_neg (by omega)]
theorem snap_flat (hs : ∀ a, sealCells (f a) = some (f a)) : ∀ (l : List α), snapRows k l.length (l.map f).flatten = some (l.map f)
  | [] => rfl
  | a :: l => by
    have hl := hf a
    have h1 : List.take k (f a ++ (List.map f l).flatten) = f a := by rw [← hl, List.take_left]
    have h2 : List.drop k (f a ++ (List.map f l).flatten) = (List.map f l).flatten := by rw [← hl, List.drop_left]
    simp only [List.length_cons, List.map_cons, List.flatten_cons, snapRows]
    rw [if_pos (by simp; omega), h1, h2, hs, snap_flat hs l]
end
theorem user_len (u : UserV) : u.row.length = 11 := rfl
theorem user_seal (u : UserV) : sealCells u.row = some u.row := rfl
theorem snapCell_slD {σ : Sto} {z : Zs} {sz : Nat} {es : List (List DVal)} : (slD z sz es).snapCell σ = some (slD z sz es) := by
  rcases slD_cases z sz es with ⟨h, rfl⟩ | ⟨h, rfl⟩ | h | h <;> rw [h] <;> rfl
theorem snapCell_slOf {α : Type} {f : α → List DVal} {n : Nat} {s : Sl α} {σ : Sto} : (slOf n f s).snapCell σ = some (slOf n f s) := snapCell_slD
theorem snapCell_strs {s : Sl Bs} {σ : Sto} : (strs s).snapCell σ = some (strs s) := snapCell_slD
def usersP (p : PolV) (l : List UserV) : PolV := { p with users := ⟨.full, l⟩ }
def polM (p : PolV) (v : DVal) : DVal := .agg [slOf 2 ClassV.row p.classes, slOf 3 TypeV.row p.types, slOf 5 AttrV.row p.attrs, slOf 9 RoleV.row p.roles, v, slOf 2 BoolV.row p.bools, strs p.sens, strs p.cats, slOf 10 ExprV.row p.conds, slOf 13 RuleV.row p.rules, slOf 13 TransV.row p.trans, slOf 10 RoleTransV.row p.roleTrans, slOf 13 RangeTransV.row p.ranges, slOf 13 ConstrV.row p.constrs, slOf 8 SidV.row p.sids, slOf 9 FileV.row p.files, slOf 10 AssertV.row p.asserts]
theorem wr_users (p : PolV) (sz id off len : Nat) (cap : Option Nat) : jwrSem 4 1 [p.d, .mslice sz id off len cap] = some (polM p (.mslice sz id off len cap)) := by
  simp [jwrSem, PolV.d, PolV.row, polM, writeCells, DVal.cells, DVal.okCell]
theorem wr_pol (p : PolV) : jwrSem 0 17 [.agg [.nils, .nils, .nils, .nils, .nils, .nils, .nils, .nils, .nils, .nils, .nils, .nils, .nils, .nils, .nils, .nils, .nils], p.d] = some p.d := by
  simp [jwrSem, PolV.d, PolV.row, writeCells, DVal.cells]
def wideU (p : PolV) (u : UserV) (l m : LvV) : UserV :=
  { u with roles := outS (allN (min p.roles.l.length 256)) 0, lo := ⟨min u.lo.s l.s, u.lo.c &&& l.c, Nat.lt_of_le_of_lt Nat.and_le_left u.lo.lt⟩, hi := ⟨max u.hi.s m.s, u.hi.c ||| m.c, or_lt u.hi.lt m.lt⟩ }
theorem wide_check {p : PolV} {c : CtxV} (h : checkC p c = 0) (l m : LvV) {u : UserV} {iu : Nat} (e : c.user = iu) (hu : p.users.l[iu]? = some u) : checkC (usersP p (p.users.l.set iu (wideU p u l m))) c = 0 := by
  obtain ⟨X⟩ := check_ok h
  have hiu : X.iu = iu := by have := X.eu; omega
  have a1 : at' p.users.l c.user = some u := by rw [e, at', if_pos (by omega), Int.toNat_natCast, hu]
  have a2 : at' p.roles.l c.role = some X.r := by rw [X.er, at', if_pos (by omega), Int.toNat_natCast, X.hr]
  have a3 : at' p.types.l c.type = some X.t := by rw [X.et, at', if_pos (by omega), Int.toNat_natCast, X.ht]
  have hlt : iu < p.users.l.length := (List.getElem?_eq_some_iff.1 hu).1
  have hrl : X.ir < p.roles.l.length := (List.getElem?_eq_some_iff.1 X.hr).1
  have b1 : at' (usersP p (p.users.l.set iu (wideU p u l m))).users.l c.user = some (wideU p u l m) := by
    rw [e, at', if_pos (by omega), Int.toNat_natCast]
    simp [usersP, hlt]
  unfold checkC at h ⊢
  rw [a1, a2, a3] at h
  simp only [X.rng, if_true] at h
  have a2' : at' (usersP p (p.users.l.set iu (wideU p u l m))).roles.l c.role = some X.r := a2
  have a3' : at' (usersP p (p.users.l.set iu (wideU p u l m))).types.l c.type = some X.t := a3
  rw [b1, a2', a3']
  have hr : rngV (usersP p (p.users.l.set iu (wideU p u l m))) c.lo c.hi = true := X.rng
  simp only [hr, if_true]
  by_cases h0 : c.role = 0
  · rw [if_pos h0]
  · rw [if_neg h0] at h ⊢
    split at h
    · rename_i hc
      simp only [Bool.and_eq_true] at hc
      obtain ⟨h1, h2, h3⟩ := hc
      have hk : c.role < 256 := by
        unfold hasS at h1
        simp only [Bool.and_eq_true, decide_eq_true_eq] at h1
        exact h1.2.1
      rw [if_pos]
      simp only [Bool.and_eq_true]
      refine ⟨?_, h2, ?_⟩
      · show hasS (outS (allN (min p.roles.l.length 256)) 0) c.role = true
        have er := X.er
        rw [hasS_out _ (by omega), hasS_all (by omega)]
        simp only [Bool.and_eq_true, decide_eq_true_eq, Bool.not_eq_true', decide_eq_false_iff_not]
        refine ⟨⟨by omega, by omega⟩, by omega⟩
      · unfold insV conV at h3 ⊢
        simp only [Bool.and_eq_true, dom_iff] at h3 ⊢
        obtain ⟨⟨q1, q2⟩, q3, q4⟩ := h3
        refine ⟨⟨?_, fun j hj => ?_⟩, ?_, fun j hj => ?_⟩
        · show min u.lo.s l.s ≤ c.lo.s
          omega
        · refine q2 j ?_
          have : (u.lo.c &&& l.c).testBit j = true := hj
          rw [Nat.testBit_and, Bool.and_eq_true] at this
          exact this.1
        · show c.hi.s ≤ max u.hi.s m.s
          omega
        · show (u.hi.c ||| m.c).testBit j = true
          rw [Nat.testBit_or, q4 j hj]; rfl
    · simp at h
@[simp] theorem fld_polM (p : PolV) (v : DVal) : fldSem 4 none [polM p v] = some v := rfl
@[simp] theorem fld_polM' (p : PolV) (v : DVal) : fldSem 0 (some 17) [polM p v] = some (polM p v) := rfl
theorem app_users {σ : Sto} {s : Sl UserV} (h0 : s.l ≠ []) (h1 : s.l.length ≤ 1000) : appMSem 11 σ [.slice false 1 11 [], slOf 11 UserV.row s] = some (.mslice 11 σ.nobj 0 s.l.length none, σ.new (.agg (s.l.map UserV.row).flatten)) := by
  have e1 : elemsM σ (slOf 11 UserV.row s) = some (false, s.l.map UserV.row) := elemsM_of elems_slD
  have e2 : (slOf 11 UserV.row s).szOk 11 = true := szOk_slD
  have e3 : s.l.length ≤ 4294967296 := by omega
  simp [appMSem, e1, e2, tightOf, h0, maxAppend, e3, Sto.new]
theorem snap_pol {σ : Sto} {p : PolV} {l : List UserV} (hid : 0 < σ.nobj) (ho : σ.obj 0 = .agg (l.map UserV.row).flatten) (hl : l ≠ []) : (polM p (.mslice 11 0 0 l.length none)).snapVal σ = some (usersP p l).d := by
  have e1 : (DVal.mslice 11 0 0 l.length none).snapCell σ = some (slOf 11 UserV.row ⟨.full, l⟩) := by
    simp only [DVal.snapCell, snapM, hid, if_true, ho, List.drop_zero, snap_flat user_len user_seal, Option.map_some]
    cases l with
    | nil => exact absurd rfl hl
    | cons a l => rfl
  simp only [polM, DVal.snapVal, snapCells, snapCell_slOf, snapCell_strs, e1, Option.map_some]
  rfl
theorem e8 {n d : Nat} (hn : maxLen + 2000 + d ≤ n) (aw : cpJ PR n 12 [] = some (.bool true)) {p : PolV} (hf : PFit d p) (c : CtxV) (l m : LvV) :
    cpJ PR (n + 1) 8 [p.d, c.d, rngD l m] = some (.bool true) := by
  obtain ⟨b, h1, hb⟩ := e11 hn hf
  have hn' : 1000 ≤ n := by unfold maxLen at hn; omega
  have h2 := e13 (n := n) (by omega) p c
  have h3 : cpJ PR n 28 [rngD l m, .int .i64 p.sens.l.length, .int .i64 p.cats.l.length] = some (.bool (rngV p l m)) := e28 (n := n) (by omega) l.s l.c l.lt m.s m.c m.lt p.sens.l.length p.cats.l.length
  rw [u8]
  cases b with
  | false => simp -implicitDefEqProofs [D8, h1, aw]
  | true =>
  have g := hb rfl
  by_cases hk : checkC p c = 0
  case neg =>
    generalize checkC p c = q at h2 hk
    have hk' : (q != 0) = true := by simpa using hk
    simp -implicitDefEqProofs [D8, h1, h2, hk', aw]
  case pos =>
  have h2' := h2
  rw [hk] at h2
  cases hr : rngV p l m with
  | false =>
    rw [hr] at h3
    simp -implicitDefEqProofs [D8, h1, h2, h3, aw]
  | true =>
  rw [hr] at h3
  obtain ⟨X⟩ := check_ok hk
  have hu := X.hu
  have eu := X.eu
  have hlt : X.iu < p.users.l.length := (List.getElem?_eq_some_iff.1 hu).1
  have hsm := g.small.users
  have hne : p.users.l ≠ [] := by intro e; rw [e] at hlt; simp at hlt
  have hA : appMSem 11 emptySto [.slice false 1 11 [], slOf 11 UserV.row p.users] = some (.mslice 11 0 0 p.users.l.length none, emptySto.new (.agg (p.users.l.map UserV.row).flatten)) := app_users (σ := emptySto) (s := p.users) hne (by omega)
  have hI : idxSSem 11 [.mslice 11 0 0 p.users.l.length none, .int .i64 c.user] = some (.obj 0 (X.iu * 11)) := by
    have : (X.iu : Int) < p.users.l.length := by omega
    rw [eu]
    simp [idxSSem, this]
  have h30 := e30 (n := n) (by omega) p.roles.l.length (by have := g.small.roles; omega)
  have h29 : cpJ PR n 29 [(allN (min p.roles.l.length 256)).d, .int .i64 0] = some (outS (allN (min p.roles.l.length 256)) 0).d := e29 (n := n) (by omega) (allN (min p.roles.l.length 256)) 0 (by omega)
  have h31 : cpJ PR n 31 [rngD X.u.lo X.u.hi, rngD l m] = some (rngD (wideU p X.u l m).lo (wideU p X.u l m).hi) := e31 (n := n) (by omega) X.u.lo.s X.u.lo.c X.u.hi.s X.u.hi.c ⟨X.u.lo.lt, X.u.hi.lt⟩ l.s l.c m.s m.c ⟨l.lt, m.lt⟩
  generalize hR : outS (allN (min p.roles.l.length 256)) 0 = R at h29
  have hs1 : stOSem (emptySto.new (.agg (p.users.l.map UserV.row).flatten)) 4 [.obj 0 (X.iu * 11 + 1), R.d] = some (.undef, (emptySto.new (.agg (p.users.l.map UserV.row).flatten)).put 0 (.agg ((p.users.l.set X.iu { X.u with roles := R }).map UserV.row).flatten)) := by
    rw [st_obj (k := 4) (cs := (p.users.l.map UserV.row).flatten) rfl (by simp [Sto.new, emptySto]) rfl rfl, wr_flat user_len (show 1 + 4 ≤ 11 by decide) hu (y := { X.u with roles := R }) rfl]
    rfl
  have hg : (p.users.l.set X.iu { X.u with roles := R })[X.iu]? = some { X.u with roles := R } := by simp [hlt]
  have hld : ldOSem ((emptySto.new (.agg (p.users.l.map UserV.row).flatten)).put 0 (.agg ((p.users.l.set X.iu { X.u with roles := R }).map UserV.row).flatten)) (some 4) [.obj 0 (X.iu * 11 + 7)] = some (rngD X.u.lo X.u.hi, (emptySto.new (.agg (p.users.l.map UserV.row).flatten)).put 0 (.agg ((p.users.l.set X.iu { X.u with roles := R }).map UserV.row).flatten)) := by
    rw [ld_obj (cs := ((p.users.l.set X.iu { X.u with roles := R }).map UserV.row).flatten) _ (by simp) (by simp [Sto.new, emptySto]), rd_flat user_len (by decide) hg]
    rfl
  have hs2 : stOSem ((emptySto.new (.agg (p.users.l.map UserV.row).flatten)).put 0 (.agg ((p.users.l.set X.iu { X.u with roles := R }).map UserV.row).flatten)) 4 [.obj 0 (X.iu * 11 + 7), rngD (wideU p X.u l m).lo (wideU p X.u l m).hi] = some (.undef, (emptySto.new (.agg (p.users.l.map UserV.row).flatten)).put 0 (.agg ((p.users.l.set X.iu (wideU p X.u l m)).map UserV.row).flatten)) := by
    rw [st_obj (k := 4) (cs := ((p.users.l.set X.iu { X.u with roles := R }).map UserV.row).flatten) (by simp) (by simp [Sto.new, emptySto]) rfl rfl, wr_flat user_len (show 7 + 4 ≤ 11 by decide) hg (y := wideU p X.u l m) (by rw [← hR]; rfl), List.set_set, Option.map_some, Sto.put_put]
  have hw := wide_check hk l m eu hu
  have h13 := e13 (n := n) (by omega) (usersP p (p.users.l.set X.iu (wideU p X.u l m))) c
  rw [hw] at h13
  have hcs : ∀ {σ : Sto}, 0 < σ.nobj → σ.obj 0 = .agg ((p.users.l.set X.iu (wideU p X.u l m)).map UserV.row).flatten → callSSem (cpJ PR n) 13 σ [polM p (.mslice 11 0 0 p.users.l.length none), c.d] = some (.int .i64 0, σ) := by
    intro σ h0 ho
    have e1 := snap_pol (p := p) h0 ho (by intro e; have := congrArg List.length e; rw [List.length_set] at this; simp only [List.length_nil] at this; omega)
    rw [List.length_set] at e1
    have e2 : c.d.snapVal σ = some c.d := rfl
    simp only [callSSem, snapVals, e1, e2, Option.bind_some, h13]
    rfl
  have hcall := hcs (σ := (emptySto.new (.agg (p.users.l.map UserV.row).flatten)).put 0 (.agg ((p.users.l.set X.iu (wideU p X.u l m)).map UserV.row).flatten)) (by simp [Sto.new, emptySto]) (by simp)
  simp -implicitDefEqProofs [D8, h1, h2, h3, sealElems, hA, hI, wr_users, h30, h29, h31, hs1, hld, hs2, hcall, aw, wr_pol, -idxSSem.eq_2, -jwrSem.eq_1, -Sto.new_put, -List.map_set]
end Go.Proofs.YthpccimmmfonjaaGreatDoor
