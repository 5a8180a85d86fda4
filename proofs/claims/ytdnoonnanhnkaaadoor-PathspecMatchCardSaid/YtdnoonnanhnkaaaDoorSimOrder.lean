/- Every schedule of a region whose order is open does what the order of the text does. -/
import Derived.Test.YtdnoonnanhnkaaaDoorSimDraw
set_option linter.unusedVariables false
set_option linter.unusedSimpArgs false
namespace Go.Proofs.YtdnoonnanhnkaaaDoor
open Go Go.RowKit

theorem ahead_fold (acc : List Nat) : ∀ (es : List Edge) (s j : Nat), (es.foldl (fun s e => if Region.binds .any e then s ||| 2 ^ e.on ||| acc.getD e.on 0 else s) s).testBit j = true →
    s.testBit j = true ∨ ∃ e ∈ es, Region.binds .any e = true ∧ (j = e.on ∨ (acc.getD e.on 0).testBit j = true)
  | [], s, j, h => .inl h
  | e :: es, s, j, h => by
    rw [List.foldl_cons] at h
    rcases ahead_fold acc es _ j h with h | ⟨e', he, h1, h2⟩
    · split at h
      · rename_i hb
        simp only [Nat.testBit_or, Bool.or_eq_true, Nat.testBit_two_pow, decide_eq_true_eq] at h
        rcases h with (h | h) | h
        · exact .inl h
        · exact .inr ⟨e, by simp, hb, .inl h.symm⟩
        · exact .inr ⟨e, by simp, hb, .inr h⟩
      · exact .inl h
    · exact .inr ⟨e', by simp [he], h1, h2⟩

theorem ahead_bit {acc : List Nat} {o : Oper} {j : Nat} (h : (ahead acc o).testBit j = true) : ∃ e ∈ o.after.toList, Region.binds .any e = true ∧ (j = e.on ∨ (acc.getD e.on 0).testBit j = true) := by
  rcases ahead_fold acc _ 0 j h with h | h
  · simp at h
  · exact h

theorem aheads_get : ∀ (ops : List Oper) (acc : List Nat) (i : Nat), (aheads acc ops).length = acc.length + ops.length ∧ (i < acc.length → (aheads acc ops)[i]? = acc[i]?) ∧
    ∀ o, ops[i]? = some o → (aheads acc ops)[acc.length + i]? = some (ahead ((aheads acc ops).take (acc.length + i)) o)
  | [], acc, i => ⟨by simp [aheads], fun _ => rfl, fun o h => by simp at h⟩
  | p :: ops, acc, i => by
    have hpre : ∀ k, k ≤ acc.length → (aheads (acc ++ [ahead acc p]) ops).take k = acc.take k := fun k hk => by
      apply List.ext_getElem?
      intro q
      rw [List.getElem?_take, List.getElem?_take]
      split
      · rw [(aheads_get ops (acc ++ [ahead acc p]) q).2.1 (by simp; omega), List.getElem?_append_left (by omega)]
      · rfl
    refine ⟨?_, fun hi => ?_, fun o ho => ?_⟩
    · show (aheads (acc ++ [ahead acc p]) ops).length = _
      rw [(aheads_get ops _ 0).1]
      simp
      omega
    · show (aheads (acc ++ [ahead acc p]) ops)[i]? = _
      rw [(aheads_get ops _ i).2.1 (by simp; omega), List.getElem?_append_left hi]
    · show (aheads (acc ++ [ahead acc p]) ops)[acc.length + i]? = some (ahead ((aheads (acc ++ [ahead acc p]) ops).take (acc.length + i)) o)
      cases i with
      | zero =>
        simp only [List.getElem?_cons_zero, Option.some.injEq] at ho
        subst ho
        rw [Nat.add_zero, hpre _ (Nat.le_refl _), (aheads_get ops _ acc.length).2.1 (by simp)]
        simp
      | succ i =>
        simp only [List.getElem?_cons_succ] at ho
        have := (aheads_get ops (acc ++ [ahead acc p]) i).2.2 o ho
        simp only [List.length_append, List.length_cons, List.length_nil, Nat.zero_add] at this
        rw [show acc.length + (i + 1) = acc.length + 1 + i by omega]
        exact this

/-- The mask of an operation. -/
def mask (ops : List Oper) (i : Nat) : Nat := (aheads [] ops).getD i 0

theorem mask_bit {ops : List Oper} {i j : Nat} {o : Oper} (ho : ops[i]? = some o) (h : (mask ops i).testBit j = true) : ∃ e ∈ o.after.toList, Region.binds .any e = true ∧ (j = e.on ∨ (mask ops e.on).testBit j = true) := by
  have hg := (aheads_get ops [] i).2.2 o ho
  simp only [List.length_nil, Nat.zero_add] at hg
  have hm : mask ops i = ahead ((aheads [] ops).take i) o := by unfold mask; rw [List.getD_eq_getElem?_getD, hg]; rfl
  rw [hm] at h
  obtain ⟨e, he, hb, h⟩ := ahead_bit h
  refine ⟨e, he, hb, h.imp id fun h => ?_⟩
  unfold mask
  rw [List.getD_eq_getElem?_getD] at h ⊢
  rw [List.getElem?_take] at h
  split at h
  · exact h
  · simp at h

theorem drawRow_get {m : Nat} {b : IOper} : ∀ (as : List IOper) (i : Nat), drawRow m b i as = true → ∀ (k : Nat) (a : IOper), as[k]? = some a → m.testBit (i + k) = true ∨ indep a b = true
  | [], i, _, k, a, h => by simp at h
  | p :: as, i, hd, k, a, h => by
    simp only [drawRow, Bool.and_eq_true, Bool.or_eq_true] at hd
    cases k with
    | zero => simp only [List.getElem?_cons_zero, Option.some.injEq] at h; subst h; exact hd.1
    | succ k => rw [List.getElem?_cons_succ] at h; have := drawRow_get as (i + 1) hd.2 k a h; rwa [show i + 1 + k = i + (k + 1) by omega] at this

theorem drawAll_get : ∀ (ms : List Nat) (ios done : List IOper), drawAll done ms ios = true → ∀ (i : Nat) (b : IOper), ios[i]? = some b → ∃ m, ms[i]? = some m ∧ drawRow m b 0 (done ++ ios.take i) = true
  | _, [], done, _, i, b, h => by simp at h
  | [], _ :: _, done, hd, i, b, h => by simp [drawAll] at hd
  | m :: ms, p :: ios, done, hd, i, b, h => by
    simp only [drawAll, Bool.and_eq_true] at hd
    cases i with
    | zero => simp only [List.getElem?_cons_zero, Option.some.injEq] at h; subst h; exact ⟨m, rfl, by simpa using hd.1⟩
    | succ i =>
      rw [List.getElem?_cons_succ] at h
      obtain ⟨m', h1, h2⟩ := drawAll_get ms ios (done ++ [p]) hd.2 i b h
      exact ⟨m', by simpa using h1, by simpa using h2⟩

theorem draw_pair {ops : List Oper} {ios : List IOper} (h : drawAll [] (aheads [] ops) ios = true) {i j : Nat} {a b : IOper} (hij : j < i) (hb : ios[i]? = some b) (ha : ios[j]? = some a) :
    (mask ops i).testBit j = true ∨ indep a b = true := by
  obtain ⟨m, h1, h2⟩ := drawAll_get _ _ _ h i b hb
  have := drawRow_get _ 0 h2 j a (by rw [List.nil_append, List.getElem?_take, if_pos hij]; exact ha)
  unfold mask
  rw [List.getD_eq_getElem?_getD, h1]
  simpa using this

theorem edges_get : ∀ (ops : List Oper) (i : Nat), edgesBack i ops = true → ∀ (k : Nat) (o : Oper), ops[k]? = some o → ∀ e ∈ o.after.toList, Region.binds .any e = true → e.on < i + k
  | [], i, _, k, o, h => by simp at h
  | p :: ops, i, hd, k, o, h => by
    simp only [edgesBack, Bool.and_eq_true, List.all_eq_true, Bool.or_eq_true, Bool.not_eq_true', decide_eq_true_eq] at hd
    cases k with
    | zero =>
      simp only [List.getElem?_cons_zero, Option.some.injEq] at h
      subst h
      intro e he hb
      rcases hd.1 e he with h | h
      · rw [hb] at h; cases h
      · simpa using h
    | succ k =>
      rw [List.getElem?_cons_succ] at h
      intro e he hb
      have := edges_get ops (i + 1) hd.2 k o h e he hb
      omega

/-- What is not listed yet. -/
def remain (n : Nat) (listed : Array Bool) : List Nat := (List.range n).filter fun i => !listed.getD i true

theorem mem_remain {n : Nat} {listed : Array Bool} {i : Nat} : i ∈ remain n listed ↔ i < n ∧ listed.getD i true = false := by
  simp [remain]

theorem getD_set {l : Array Bool} {i j : Nat} {d : Bool} : (l.setIfInBounds i true).getD j d = if i = j ∧ i < l.size then true else l.getD j d := by
  by_cases h : i = j
  · subst h
    by_cases hs : i < l.size
    · simp [hs]
    · simp [hs, Array.setIfInBounds]
  · simp [h, Array.getElem?_setIfInBounds_ne h]

/-- One of those that remain, with the earlier and the later ones. -/
theorem remain_split {n : Nat} {listed : Array Bool} {i : Nat} (hs : listed.size = n) (hi : i ∈ remain n listed) :
    ∃ l r, remain n listed = l ++ i :: r ∧ remain n (listed.setIfInBounds i true) = l ++ r ∧ ∀ j ∈ l, j < i ∧ listed.getD j true = false := by
  obtain ⟨h1, h2⟩ := mem_remain.1 hi
  have hr : List.range n = List.range i ++ i :: List.range' (i + 1) (n - i - 1) := by
    rw [List.range_eq_range', List.range_eq_range', ← List.range'_succ]
    have := @List.range'_append 0 i (n - i - 1 + 1) 1
    rw [Nat.one_mul, Nat.zero_add] at this
    rw [this]
    congr 1
    omega
  refine ⟨(List.range i).filter fun i => !listed.getD i true, (List.range' (i + 1) (n - i - 1)).filter fun i => !listed.getD i true, ?_, ?_, ?_⟩
  · unfold remain
    rw [hr, List.filter_append, List.filter_cons, if_pos (by rw [h2]; rfl)]
  · unfold remain
    rw [hr, List.filter_append, List.filter_cons, if_neg (by rw [getD_set, if_pos ⟨rfl, by omega⟩]; simp)]
    congr 1
    · apply List.filter_congr
      intro j hj
      have := List.mem_range.1 hj
      rw [getD_set, if_neg (by omega)]
    · apply List.filter_congr
      intro j hj
      have := List.mem_range'_1.1 hj
      rw [getD_set, if_neg (by omega)]
  · intro j hj
    simp only [List.mem_filter, List.mem_range, Bool.not_eq_true'] at hj
    exact hj

section
variable {cp : Nat → List DVal → Option DVal} {ci : Nat → List DVal → Sto → Option (DVal × Sto)}

theorem go_sound {ops : Array Oper} {ios : List IOper} (hlen : ios.length = ops.size) (hdraw : drawAll [] (aheads [] ops.toList) ios = true) (hback : edgesBack 0 ops.toList = true) :
    ∀ (fuel t : Nat) (listed : Array Bool) (st st' : St), listed.size = ops.size → (remain ops.size listed).length ≤ fuel → (∀ i, i < ops.size → listed.getD i false = true → ∀ j, (mask ops.toList i).testBit j = true → listed.getD j false = true) →
      runIdx cp ci ios (remain ops.size listed) st = some st' → runIdx cp ci ios (Region.linearise.go .any ops fuel t listed []) st = some st'
  | 0, t, listed, st, st', hs, hf, hd, h => by
    have : remain ops.size listed = [] := List.length_eq_zero_iff.1 (by omega)
    rw [this] at h
    simpa [Region.linearise.go] using h
  | fuel + 1, t, listed, st, st', hs, hf, hd, h => by
    simp only [Region.linearise.go]
    change runIdx cp ci ios (match (Region.ready .any ops listed)[t % (Region.ready .any ops listed).length]? with
      | some i => Region.linearise.go .any ops fuel (t / (Region.ready .any ops listed).length) (listed.setIfInBounds i true) [i]
      | none => [].reverse) st = some st'
    cases hi : (Region.ready .any ops listed)[t % (Region.ready .any ops listed).length]? with
    | none =>
      have hnil : Region.ready .any ops listed = [] := by
        cases hr : Region.ready .any ops listed with
        | nil => rfl
        | cons x xs =>
          rw [hr] at hi
          have hlt : t % (x :: xs).length < (x :: xs).length := Nat.mod_lt _ (by simp)
          simp at hi
          simp at hlt
          omega
      have hrem : remain ops.size listed = [] := by
        cases hr : remain ops.size listed with
        | nil => rfl
        | cons i r =>
          exfalso
          have hmem : i ∈ remain ops.size listed := by rw [hr]; simp
          obtain ⟨h1, h2⟩ := mem_remain.1 hmem
          obtain ⟨l, r', e1, -, -⟩ := remain_split hs hmem
          have hmin : ∀ j, j < i → listed.getD j true = true := by
            intro j hj
            cases hlj : listed.getD j true with
            | true => rfl
            | false =>
              have hjm : j ∈ remain ops.size listed := mem_remain.2 ⟨by omega, hlj⟩
              have hsorted : (remain ops.size listed).Pairwise (· < ·) := List.Pairwise.filter _ List.pairwise_lt_range
              rw [hr] at hjm hsorted
              rcases List.mem_cons.1 hjm with rfl | hjm
              · omega
              · have := (List.pairwise_cons.1 hsorted).1 j hjm
                omega
          have : i ∈ Region.ready .any ops listed := by
            unfold Region.ready
            rw [List.mem_filter]
            refine ⟨List.mem_range.2 h1, ?_⟩
            rw [h2, Array.getElem?_eq_getElem h1]
            simp only [Bool.not_false, Bool.true_and, Option.map_some, Option.getD_some, Array.all_eq_true', Bool.or_eq_true, Bool.not_eq_true']
            intro e he
            cases hb : Region.binds .any e with
            | false => exact .inl rfl
            | true =>
              have hlt := edges_get _ 0 hback i ops[i] (by rw [Array.getElem?_toList, Array.getElem?_eq_getElem h1]) e (by simpa using he) hb
              have := hmin e.on (by omega)
              right
              have hlt' : e.on < listed.size := by omega
              simpa [Array.getD, hlt'] using this
          rw [hnil] at this
          simp at this
      rw [hrem] at h
      simpa using h
    | some i =>
      have hmem : i ∈ Region.ready .any ops listed := List.mem_of_getElem? hi
      unfold Region.ready at hmem
      rw [List.mem_filter] at hmem
      obtain ⟨hir, hp⟩ := hmem
      have hlt := List.mem_range.1 hir
      rw [Array.getElem?_eq_getElem hlt] at hp
      simp only [Option.map_some, Option.getD_some, Bool.and_eq_true, Bool.not_eq_true', Array.all_eq_true', Bool.or_eq_true] at hp
      obtain ⟨hun, haft⟩ := hp
      have hrem : i ∈ remain ops.size listed := mem_remain.2 ⟨hlt, hun⟩
      obtain ⟨l, r, e1, e2, e3⟩ := remain_split hs hrem
      simp only []
      rw [linearise_go_acc, List.reverse_singleton, List.singleton_append]
      have hio : i < ios.length := by omega
      have hmask : ∀ j, (mask ops.toList i).testBit j = true → listed.getD j false = true := by
        intro j hj
        obtain ⟨e, he, hb, h⟩ := mask_bit (o := ops[i]) (by rw [Array.getElem?_toList, Array.getElem?_eq_getElem hlt]) hj
        have hl : listed.getD e.on false = true := by
          rcases haft e (by simpa using he) with h | h
          · rw [hb] at h; cases h
          · exact h
        rcases h with rfl | h
        · exact hl
        · have hlt2 := edges_get _ 0 hback i ops[i] (by rw [Array.getElem?_toList, Array.getElem?_eq_getElem hlt]) e he hb
          exact hd e.on (by omega) hl j h
      rw [e1, show l ++ i :: r = (l ++ [i]) ++ r by simp, runIdx_append] at h
      simp only [Option.bind_eq_some_iff] at h
      obtain ⟨s, g1, g2⟩ := h
      obtain ⟨s1, g3, g4⟩ := to_front ios (List.getElem?_eq_getElem hio) l st s (fun j hj p hp => by
        obtain ⟨k1, k2⟩ := e3 j hj
        rcases draw_pair hdraw k1 (List.getElem?_eq_getElem hio) hp with hb | hb
        · have := hmask j hb
          have hj' : j < listed.size := by omega
          simp [Array.getD, hj'] at this k2
          rw [this] at k2
          cases k2
        · exact hb) g1
      simp only [runIdx, List.getElem?_eq_getElem hio, g3, Option.bind_some]
      refine go_sound hlen hdraw hback fuel _ _ s1 st' (by simpa using hs) ?_ ?_ ?_
      · rw [e2]
        rw [e1] at hf
        simp only [List.length_append, List.length_cons] at hf ⊢
        omega
      · intro k hk hlk j hj
        rw [getD_set] at hlk ⊢
        split
        · rfl
        · split at hlk
          · rename_i hik
            obtain ⟨rfl, -⟩ := hik
            exact hmask j hj
          · exact hd k hk hlk j hj
      · rw [e2, runIdx_append, g4, Option.bind_some, g2]

theorem remain_all {n : Nat} : remain n (Array.replicate n false) = List.range n := by
  unfold remain
  rw [List.filter_eq_self]
  intro i hi
  have := List.mem_range.1 hi
  simp [Array.getD, this]

theorem linearise_sound {ops : Array Oper} {ios : List IOper} (hlen : ios.length = ops.size) (hdraw : drawAll [] (aheads [] ops.toList) ios = true) (hback : edgesBack 0 ops.toList = true) (t : Nat) {st st' : St} (h : runOps cp ci ios st = some st') :
    runIdx cp ci ios (Region.linearise .any ops t) st = some st' := by
  refine go_sound hlen hdraw hback _ _ _ st st' (by simp) ?_ ?_ ?_
  · rw [remain_all]; simp
  · intro i hi hl
    simp [Array.getD, hi] at hl
  · rw [remain_all, List.range_eq_range', ← hlen, ← runOps_idx ios _ 0 st (by omega)]
    simpa using h

end

end Go.Proofs.YtdnoonnanhnkaaaDoor
