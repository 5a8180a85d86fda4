/- Texts of this proof, part 6: see the card for what is proved. -/
import Derived.Test.YthpccimmmfonjaaGreatDoorPt05
import Derived.Lib.DecodeN
import Derived.KernelRfl
namespace Go.Proofs.YthpccimmmfonjaaGreatDoor
set_option linter.unusedVariables false
set_option linter.unusedSimpArgs false
open Go
theorem index_none {c : UInt8} : ∀ {s : Bs}, c ∉ s → Lib.index s [c] = -1
  | [], _ => rfl
  | b :: l, h => by
    simp only [List.mem_cons, not_or] at h
    have := index_none h.2
    have hb : ¬ (c = b) := h.1
    simp [Lib.index, List.isPrefixOf, hb, this]
theorem index_at {c : UInt8} {b : Bs} : ∀ {a : Bs}, c ∉ a → Lib.index (a ++ c :: b) [c] = a.length
  | [], _ => by simp [Lib.index, List.isPrefixOf]
  | x :: a, h => by
    simp only [List.mem_cons, not_or] at h
    have := index_at (b := b) h.2
    have hb : ¬ (c = x) := h.1
    have hne : ¬ ((a.length : Int) = -1) := by omega
    simp [Lib.index, List.isPrefixOf, hb, this, hne]
theorem cut_miss {c : UInt8} {s : Bs} (h : c ∉ s) : Lib.cut s [c] = (s, [], false) := by
  simp [Lib.cut, index_none h]
theorem cut_hit {c : UInt8} {a b : Bs} (h : c ∉ a) : Lib.cut (a ++ c :: b) [c] = (a, b, true) := by
  have h0 : (0 : Int) ≤ a.length := by omega
  simp [Lib.cut, index_at h, h0]
theorem cut_exists (c : UInt8) : ∀ (s : Bs), c ∉ s ∨ ∃ a b, s = a ++ c :: b ∧ c ∉ a
  | [] => .inl (by simp)
  | x :: s => by
    by_cases h : x = c
    · subst h; exact .inr ⟨[], s, rfl, by simp⟩
    · rcases cut_exists c s with h' | ⟨a, b, rfl, h'⟩
      · exact .inl (by simp [h', Ne.symm h])
      · exact .inr ⟨x :: a, b, rfl, by simp [h', Ne.symm h]⟩
def joinC (c : UInt8) (p : Bs) (r : List Bs) : Bs := p ++ r.flatMap fun q => c :: q
theorem count_join {c : UInt8} : ∀ {r : List Bs} {p : Bs}, c ∉ p → (∀ q ∈ r, c ∉ q) → Lib.count (joinC c p r) [c] = r.length
  | [], p, hp, _ => by simp [joinC, Lib.count_miss (index_none hp)]
  | q :: r, p, hp, hr => by
    have e : joinC c p (q :: r) = p ++ c :: joinC c q r := by simp [joinC]
    rw [e, Lib.count_hit (by simp) (index_at hp)]
    have : (p ++ c :: joinC c q r).drop (p.length + [c].length) = joinC c q r := by simp
    rw [this, count_join (hr q (by simp)) (fun x hx => hr x (by simp [hx]))]
    simp; omega
theorem splitK_join {c : UInt8} : ∀ {r : List Bs} {p : Bs} {k : Nat}, r.length ≤ k → c ∉ p → (∀ q ∈ r, c ∉ q) → Lib.splitK [c] 0 k (joinC c p r) = p :: r
  | [], p, k, hk, hp, _ => by
    have e : joinC c p [] = p := by simp [joinC]
    rw [e]
    cases k with
    | zero => rfl
    | succ k => simp [Lib.splitK, index_none hp]
  | q :: r, p, k, hk, hp, hr => by
    obtain ⟨k, rfl⟩ : ∃ j, k = j + 1 := ⟨k - 1, by simp at hk; omega⟩
    have e : joinC c p (q :: r) = p ++ c :: joinC c q r := by simp [joinC]
    have hne : ¬ ((p.length : Int) = -1) := by omega
    rw [e, Lib.splitK, index_at hp]
    have : (p ++ c :: joinC c q r).drop (p.length + 1) = joinC c q r := by simp
    simp [hne, this, splitK_join (k := k) (by simp at hk; omega) (hr q (by simp)) (fun x hx => hr x (by simp [hx]))]
theorem joinC_len {c : UInt8} : ∀ {r : List Bs} {p : Bs}, r.length ≤ (joinC c p r).length
  | [], p => by simp
  | q :: r, p => by
    have := joinC_len (c := c) (r := r) (p := q)
    have e : joinC c p (q :: r) = p ++ c :: joinC c q r := by simp [joinC]
    rw [e]
    simp; omega
theorem split_join {c : UInt8} {r : List Bs} {p : Bs} (hp : c ∉ p) (hr : ∀ q ∈ r, c ∉ q) : Lib.splitN (joinC c p r) [c] (Lib.count (joinC c p r) [c] + 1) = p :: r := by
  unfold Lib.splitN
  rw [count_join hp hr]
  exact splitK_join (by have := joinC_len (c := c) (r := r) (p := p); omega) hp hr
theorem split_exists (c : UInt8) : ∀ (s : Bs), ∃ p r, s = joinC c p r ∧ c ∉ p ∧ ∀ q ∈ r, c ∉ q
  | [] => ⟨[], [], rfl, by simp, by simp⟩
  | x :: s => by
    obtain ⟨p, r, rfl, h1, h2⟩ := split_exists c s
    by_cases h : x = c
    · subst h
      exact ⟨[], p :: r, by simp [joinC], by simp, by simpa using ⟨h1, h2⟩⟩
    · exact ⟨x :: p, r, by simp [joinC], by simp [h1, Ne.symm h], h2⟩
def wordP (w : Bs) : Prop := wordV w = true
theorem wordP_iff {w : Bs} : wordP w ↔ w.all isL = true ∧ w ≠ [] := by
  unfold wordP wordV
  rw [Bool.and_eq_true, Bool.not_eq_true', List.isEmpty_eq_false_iff]
theorem isL_sp : isL 58 = false ∧ isL 44 = false ∧ isL 46 = false ∧ isL 45 = false := by decide
theorem not_mem_word {w : Bs} (h : w.all isL = true) {c : UInt8} (hc : isL c = false) : c ∉ w := fun hm => by
  have := List.all_eq_true.1 h c hm
  rw [hc] at this; cases this
def partS (p : Bs × Bs) : Bs := if p.2 = [] then p.1 else p.1 ++ 46 :: p.2
def ValidSp (p : Bs × Bs) : Prop := wordP p.1 ∧ (p.2 = [] ∨ wordP p.2)
def ValidL (l : Bs × List (Bs × Bs)) : Prop := wordP l.1 ∧ ∀ p ∈ l.2, ValidSp p
def renderL (l : Bs × List (Bs × Bs)) : Bs := txtT l.1 (l.2.map partS)
def spanP (u : Bs) : Option (Bs × Bs) := let r := Lib.cut u [46]; if wordV r.1 = true ∧ (r.2.2 = true → wordV r.2.1 = true) then some (r.1, r.2.1) else none
def mapO {α β : Type} (f : α → Option β) : List α → Option (List β)
  | [] => some []
  | x :: xs => match f x, mapO f xs with
    | some y, some ys => some (y :: ys)
    | _, _ => none
def parsedP (u : Bs) : Option (Bs × List (Bs × Bs)) :=
  let r := Lib.cut u [58]
  if wordV r.1 = true then (if r.2.2 = true then (mapO spanP (Lib.splitN r.2.1 [44] (Lib.count r.2.1 [44] + 1))).map fun sp => (r.1, sp) else some (r.1, [])) else none
theorem spanP_sound {u : Bs} {p : Bs × Bs} (h : spanP u = some p) : u = partS p ∧ ValidSp p := by
  unfold spanP at h
  rcases cut_exists 46 u with hm | ⟨a, b, rfl, hm⟩
  · rw [cut_miss hm] at h
    simp only [Bool.false_eq_true, false_implies, and_true] at h
    split at h
    · rename_i hw
      simp only [Option.some.injEq] at h
      subst h
      exact ⟨by simp [partS], hw, .inl rfl⟩
    · cases h
  · rw [cut_hit hm] at h
    simp only [true_implies] at h
    split at h
    · rename_i hw
      simp only [Option.some.injEq] at h
      subst h
      have hb : b ≠ [] := (wordP_iff.1 hw.2).2
      exact ⟨by simp [partS, hb], hw.1, .inr hw.2⟩
    · cases h
theorem spanP_complete {p : Bs × Bs} (h : ValidSp p) : spanP (partS p) = some p := by
  obtain ⟨f, t⟩ := p
  obtain ⟨h1, h2⟩ := h
  have hf : (46 : UInt8) ∉ f := not_mem_word (wordP_iff.1 h1).1 isL_sp.2.2.1
  unfold spanP
  by_cases ht : t = []
  · subst ht
    have : partS (f, []) = f := by simp [partS]
    rw [this, cut_miss hf]
    simp [show wordV f = true from h1]
  · have hw : wordV t = true := by rcases h2 with h2 | h2
                                   · exact absurd h2 ht
                                   · exact h2
    have : partS (f, t) = f ++ 46 :: t := by simp [partS, ht]
    rw [this, cut_hit hf]
    simp [show wordV f = true from h1, hw]
theorem comma_part {p : Bs × Bs} (h : ValidSp p) : (44 : UInt8) ∉ partS p := by
  obtain ⟨f, t⟩ := p
  obtain ⟨h1, h2⟩ := h
  have hf : (44 : UInt8) ∉ f := not_mem_word (wordP_iff.1 h1).1 isL_sp.2.1
  unfold partS
  split
  · exact hf
  · rename_i ht
    rcases h2 with h2 | h2
    · exact absurd h2 ht
    · have ht' : (44 : UInt8) ∉ t := not_mem_word (wordP_iff.1 h2).1 isL_sp.2.1
      simp only at ht' ⊢
      simp [hf, ht']
theorem mapO_sound {us : List Bs} : ∀ {sp : List (Bs × Bs)}, mapO spanP us = some sp → us = sp.map partS ∧ ∀ p ∈ sp, ValidSp p := by
  induction us with
  | nil => intro sp h; simp only [mapO, Option.some.injEq] at h; subst h; simp
  | cons u us ih =>
    intro sp h
    simp only [mapO] at h
    split at h
    · rename_i y ys h1 h2
      simp only [Option.some.injEq] at h
      subst h
      obtain ⟨a1, a2⟩ := spanP_sound h1
      obtain ⟨b1, b2⟩ := ih h2
      refine ⟨by simp [a1, b1], fun p hp => ?_⟩
      rcases List.mem_cons.1 hp with rfl | hp
      · exact a2
      · exact b2 p hp
    · cases h
theorem mapO_complete : ∀ {sp : List (Bs × Bs)}, (∀ p ∈ sp, ValidSp p) → mapO spanP (sp.map partS) = some sp
  | [], _ => rfl
  | p :: sp, h => by
    simp only [List.map_cons, mapO, spanP_complete (h p (by simp)), mapO_complete (sp := sp) fun q hq => h q (by simp [hq])]
theorem parsedP_sound {u : Bs} {l : Bs × List (Bs × Bs)} (h : parsedP u = some l) : u = renderL l ∧ ValidL l := by
  unfold parsedP at h
  rcases cut_exists 58 u with hm | ⟨a, b, rfl, hm⟩
  · rw [cut_miss hm] at h
    simp only [Bool.false_eq_true, if_false] at h
    split at h
    · rename_i hw
      simp only [Option.some.injEq] at h
      subst h
      exact ⟨by simp [renderL, txtT], hw, by simp⟩
    · cases h
  · rw [cut_hit hm] at h
    simp only [if_true] at h
    split at h
    · rename_i hw
      simp only [Option.map_eq_some_iff] at h
      obtain ⟨sp, h, rfl⟩ := h
      obtain ⟨p, r, rfl, hp, hr⟩ := split_exists 44 b
      rw [split_join hp hr] at h
      obtain ⟨h1, h2⟩ := mapO_sound h
      refine ⟨?_, hw, h2⟩
      simp only [renderL, ← h1, txtT, tailT, joinC]
    · cases h
theorem parsedP_complete {l : Bs × List (Bs × Bs)} (h : ValidL l) : parsedP (renderL l) = some l := by
  obtain ⟨name, sp⟩ := l
  obtain ⟨h1, h2⟩ := h
  have hn : (58 : UInt8) ∉ name := not_mem_word (wordP_iff.1 h1).1 isL_sp.1
  unfold parsedP
  cases sp with
  | nil =>
    have : renderL (name, []) = name := by simp [renderL, txtT]
    rw [this, cut_miss hn]
    simp [show wordV name = true from h1]
  | cons p r =>
    have hc := mapO_complete (sp := p :: r) h2
    have e : renderL (name, p :: r) = name ++ 58 :: joinC 44 (partS p) (r.map partS) := by simp [renderL, txtT, tailT, joinC]
    rw [e, cut_hit hn]
    have hs := split_join (c := 44) (p := partS p) (r := r.map partS) (comma_part (h2 p (by simp))) (fun q hq => by
      simp only [List.mem_map] at hq
      obtain ⟨x, hx, rfl⟩ := hq
      exact comma_part (h2 x (by simp [hx])))
    simp only [if_true, hs, show wordV name = true from h1]
    rw [List.map_cons] at hc
    rw [hc]
    rfl
def tw (u : Bs) : Bs := u.takeWhile isL
def dw (u : Bs) : Bs := u.dropWhile isL
theorem tw_dw (u : Bs) : tw u ++ dw u = u := List.takeWhile_append_dropWhile
theorem tw_word (w : Bs) (h : w.all isL = true) (u : Bs) (hu : u = [] ∨ ∃ c v, u = c :: v ∧ isL c = false) : tw (w ++ u) = w ∧ dw (w ++ u) = u := by
  unfold tw dw
  have h' : ∀ x ∈ w, isL x = true := List.all_eq_true.1 h
  rw [List.takeWhile_append_of_pos h', List.dropWhile_append_of_pos h']
  rcases hu with rfl | ⟨c, v, rfl, hc⟩
  · simp
  · simp [hc]
theorem tw_all (u : Bs) : (tw u).all isL = true := List.all_takeWhile
def sepB (first : Bool) : UInt8 := if first then 58 else 44
def spansR : Nat → Bool → Bs → Option (List (Bs × Bs) × Bs)
  | 0, _, _ => none
  | k + 1, first, u =>
    match u with
    | [] => some ([], [])
    | c :: u' =>
      if c = sepB first then
        if tw u' = [] then none
        else match dw u' with
          | 46 :: v => if tw v = [] then none else (spansR k false (dw v)).map fun x => ((tw u', tw v) :: x.1, x.2)
          | w => (spansR k false w).map fun x => ((tw u', []) :: x.1, x.2)
      else some ([], c :: u')
def levelR (k : Nat) (u : Bs) : Option ((Bs × List (Bs × Bs)) × Bs) :=
  if tw u = [] then none else (spansR k true (dw u)).map fun x => ((tw u, x.1), x.2)
def renderSp (first : Bool) : List (Bs × Bs) → Bs
  | [] => []
  | p :: r => sepB first :: (partS p ++ renderSp false r)
theorem renderSp_tail : ∀ (r : List (Bs × Bs)), renderSp false r = tailT (r.map partS)
  | [] => rfl
  | p :: r => by simp [renderSp, renderSp_tail r, tailT, sepB]
theorem renderL_sp (l : Bs × List (Bs × Bs)) : renderL l = l.1 ++ renderSp true l.2 := by
  obtain ⟨name, sp⟩ := l
  cases sp with
  | nil => simp [renderL, txtT, renderSp]
  | cons p r => simp [renderL, txtT, renderSp, renderSp_tail, sepB]
theorem spansR_sound : ∀ (k : Nat) (first : Bool) (u : Bs) (sp : List (Bs × Bs)) (rest : Bs), spansR k first u = some (sp, rest) → u = renderSp first sp ++ rest ∧ ∀ p ∈ sp, ValidSp p
  | 0, first, u, sp, rest, h => by simp [spansR] at h
  | k + 1, first, u, sp, rest, h => by
    unfold spansR at h
    split at h
    · simp only [Option.some.injEq, Prod.mk.injEq] at h
      obtain ⟨rfl, rfl⟩ := h
      exact ⟨rfl, by simp⟩
    · rename_i c u'
      split at h
      · rename_i hc
        split at h
        · cases h
        · rename_i hf
          have wf : wordP (tw u') := wordP_iff.2 ⟨tw_all u', hf⟩
          split at h
          · rename_i v hv
            split at h
            · cases h
            · rename_i ht
              simp only [Option.map_eq_some_iff, Prod.mk.injEq] at h
              obtain ⟨⟨sp', rest'⟩, hk, rfl, rfl⟩ := h
              obtain ⟨a1, a2⟩ := spansR_sound k false _ _ _ hk
              have wt : wordP (tw v) := wordP_iff.2 ⟨tw_all v, ht⟩
              refine ⟨?_, fun p hp => ?_⟩
              · have e9001 := tw_dw u'
                have e9002 := tw_dw v
                rw [hv] at e9001
                simp only [renderSp, partS, ht, if_false, ← hc]
                conv => lhs; rw [← e9001, ← e9002, a1]
                simp
              · rcases List.mem_cons.1 hp with rfl | hp
                · exact ⟨wf, .inr wt⟩
                · exact a2 p hp
          · simp only [Option.map_eq_some_iff, Prod.mk.injEq] at h
            obtain ⟨⟨sp', rest'⟩, hk, rfl, rfl⟩ := h
            obtain ⟨a1, a2⟩ := spansR_sound k false _ _ _ hk
            refine ⟨?_, fun p hp => ?_⟩
            · have e9001 := tw_dw u'
              simp only [renderSp, partS, if_true, ← hc]
              conv => lhs; rw [← e9001, a1]
              simp
            · rcases List.mem_cons.1 hp with rfl | hp
              · exact ⟨wf, .inl rfl⟩
              · exact a2 p hp
      · simp only [Option.some.injEq, Prod.mk.injEq] at h
        obtain ⟨rfl, rfl⟩ := h
        exact ⟨by simp [renderSp], by simp⟩
def Ends (rest : Bs) : Prop := rest = [] ∨ ∃ r, rest = 45 :: r
theorem ends_or {sp : List (Bs × Bs)} {rest : Bs} (h : Ends rest) (first : Bool) : (renderSp first sp ++ rest = [] ∨ ∃ c v, renderSp first sp ++ rest = c :: v ∧ isL c = false) ∧ ∀ v, renderSp first sp ++ rest ≠ 46 :: v := by
  cases sp with
  | nil =>
    rcases h with rfl | ⟨r, rfl⟩
    · exact ⟨.inl rfl, by simp [renderSp]⟩
    · exact ⟨.inr ⟨45, r, rfl, isL_sp.2.2.2⟩, by simp [renderSp]⟩
  | cons p r =>
    cases first
    · exact ⟨.inr ⟨44, _, rfl, isL_sp.2.1⟩, by simp [renderSp, sepB]⟩
    · exact ⟨.inr ⟨58, _, rfl, isL_sp.1⟩, by simp [renderSp, sepB]⟩
theorem spansR_complete {rest : Bs} (hr : Ends rest) : ∀ (sp : List (Bs × Bs)) (k : Nat) (first : Bool), sp.length < k → (∀ p ∈ sp, ValidSp p) → spansR k first (renderSp first sp ++ rest) = some (sp, rest)
  | [], k, first, hk, _ => by
    obtain ⟨k, rfl⟩ : ∃ j, k = j + 1 := ⟨k - 1, by omega⟩
    rcases hr with rfl | ⟨r, rfl⟩
    · rfl
    · cases first <;> simp [spansR, renderSp, sepB]
  | p :: sp, k, first, hk, hv => by
    obtain ⟨k, rfl⟩ : ∃ j, k = j + 1 := ⟨k - 1, by omega⟩
    obtain ⟨f, t⟩ := p
    obtain ⟨h1, h2⟩ := hv (f, t) (by simp)
    have ih := spansR_complete hr sp k false (by simp at hk; omega) fun q hq => hv q (by simp [hq])
    obtain ⟨e9001, e9002⟩ := ends_or (sp := sp) hr false
    have wf := wordP_iff.1 h1
    simp only [renderSp, List.cons_append, spansR, if_true]
    by_cases ht : t = []
    · subst ht
      have hp : partS (f, []) = f := by simp [partS]
      rw [hp, List.append_assoc]
      obtain ⟨g1, g2⟩ := tw_word f wf.1 _ e9001
      simp only [g1, g2, wf.2, if_false]
      rw [ih]; rfl
    · have wt : wordP t := by rcases h2 with h2 | h2
                              · exact absurd h2 ht
                              · exact h2
      have wt' := wordP_iff.1 wt
      have hp : partS (f, t) = f ++ 46 :: t := by simp [partS, ht]
      rw [hp, List.append_assoc, List.append_assoc, List.cons_append]
      obtain ⟨g1, g2⟩ := tw_word f wf.1 (46 :: (t ++ (renderSp false sp ++ rest))) (.inr ⟨46, _, rfl, isL_sp.2.2.1⟩)
      obtain ⟨g3, g4⟩ := tw_word t wt'.1 _ e9001
      simp only [g1, g2, g3, g4, wf.2, wt'.2, if_false, ih, Option.map_some]
theorem levelR_sound {k : Nat} {u rest : Bs} {l : Bs × List (Bs × Bs)} (h : levelR k u = some (l, rest)) : u = renderL l ++ rest ∧ ValidL l := by
  unfold levelR at h
  split at h
  · cases h
  · rename_i hn
    simp only [Option.map_eq_some_iff, Prod.mk.injEq] at h
    obtain ⟨⟨sp, r⟩, hs, rfl, rfl⟩ := h
    obtain ⟨a1, a2⟩ := spansR_sound _ _ _ _ _ hs
    refine ⟨?_, wordP_iff.2 ⟨tw_all u, hn⟩, a2⟩
    rw [renderL_sp, List.append_assoc, ← a1, tw_dw]
theorem levelR_complete {k : Nat} {rest : Bs} {l : Bs × List (Bs × Bs)} (hr : Ends rest) (hk : l.2.length < k) (h : ValidL l) : levelR k (renderL l ++ rest) = some (l, rest) := by
  obtain ⟨name, sp⟩ := l
  have wn := wordP_iff.1 h.1
  obtain ⟨e9001, -⟩ := ends_or (sp := sp) hr true
  unfold levelR
  rw [renderL_sp, List.append_assoc]
  obtain ⟨g1, g2⟩ := tw_word name wn.1 _ e9001
  simp only [g1, g2, wn.2, if_false, spansR_complete hr sp k true hk h.2, Option.map_some]
end Go.Proofs.YthpccimmmfonjaaGreatDoor
namespace Go.Proofs.YthpccimmmfonjaaGreatDoor
set_option linter.unusedVariables false
set_option linter.unusedSimpArgs false
set_option maxRecDepth 20000
set_option maxHeartbeats 2000000
open Go
abbrev Sp := List UInt8 × List UInt8
abbrev spD (z : Zs) (sp : List Sp) : DVal := slD z 2 (sp.map fun p => [DVal.str p.1, DVal.str p.2])
theorem idxAt_cases (s : List UInt8) : ∀ (l : List (List UInt8)) (i : Nat), idxAt s l i = -1 ∨ ∃ j : Nat, idxAt s l i = ((i + j : Nat) : Int) ∧ j < l.length ∧ l[j]? = some s
  | [], i => .inl rfl
  | x :: xs, i => by
    unfold idxAt
    by_cases e : x = s
    · exact .inr ⟨0, by simp [e], by simp, by simp [e]⟩
    · simp only [e, if_false]
      rcases idxAt_cases s xs (i + 1) with h | ⟨j, h1, h2, h3⟩
      · exact .inl h
      · exact .inr ⟨j + 1, by rw [h1]; congr 1; omega, by simp; omega, by simpa using h3⟩
def bitsR (c : Nat) : Nat → Nat → Nat
  | _, 0 => c
  | a, k + 1 => bitsR (c ||| 2 ^ a) (a + 1) k
theorem pow_lt {a : Nat} (h : a < 64) : 2 ^ a < 18446744073709551616 := Nat.pow_lt_pow_right (by decide) h
theorem bitsR_lt : ∀ {k a c : Nat}, c < 18446744073709551616 → a + k ≤ 64 → bitsR c a k < 18446744073709551616
  | 0, a, c, h, _ => h
  | k + 1, a, c, h, hk => by
    have h1 := or_lt h (pow_lt (by omega : a < 64))
    exact bitsR_lt (k := k) (a := a + 1) h1 (by omega)
theorem shl_one {a : Nat} (h : a < 64) : IntKind.u64.wrap (1 * 2 ^ min a 64) = ((2 ^ a : Nat) : Int) := by
  have e : (2 : Int) ^ a = ((2 ^ a : Nat) : Int) := (Int.natCast_pow 2 a).symm
  have h1 := pow_lt h
  rw [show min a 64 = a by omega, Int.one_mul, e]
  generalize 2 ^ a = x at h1
  exact wrap_u64 (by omega) (by omega)
def lvlAcc (cats : List (List UInt8)) : List Sp → Nat → Nat × Int
  | [], c => (c, 0)
  | p :: r, c =>
    let a := idxAt p.1 cats 0
    let b := if p.2 ≠ [] then idxAt p.2 cats 0 else a
    if a < 0 ∨ b < 0 then (0, 11) else if b < a then (0, 18) else lvlAcc cats r (bitsR c a.toNat (b.toNat + 1 - a.toNat))
abbrev lvE (s : Int) (c : Nat) (e : Int) : DVal := .tup [lv s c, .int .i64 e]
def accD (s : Int) (x : Nat × Int) : DVal := if x.2 = 0 then lvE s x.1 0 else lvE 0 0 x.2
theorem lvlAcc_cons (cats : List (List UInt8)) (p : Sp) (r : List Sp) (c : Nat) : lvlAcc cats (p :: r) c =
    if idxAt p.1 cats 0 < 0 ∨ (if p.2 ≠ [] then idxAt p.2 cats 0 else idxAt p.1 cats 0) < 0 then (0, 11)
    else if (if p.2 ≠ [] then idxAt p.2 cats 0 else idxAt p.1 cats 0) < idxAt p.1 cats 0 then (0, 18)
    else lvlAcc cats r (bitsR c (idxAt p.1 cats 0).toNat ((if p.2 ≠ [] then idxAt p.2 cats 0 else idxAt p.1 cats 0).toNat + 1 - (idxAt p.1 cats 0).toNat)) := rfl
theorem l105_0 {n : Nat} (s : Int) (j : Nat) (hj : j ≤ 1000) (b : Nat) (hb : b < 64) (σ : Sto) : ∀ (k a c m : Nat), a + k = b + 1 → k < m → c < 18446744073709551616 →
    iterJ 1 (L105_0 (cpJ PR n) (ciJ PR n) n (.int .i64 j) (.int .i64 0) (lv 0 0) (.int .i64 b)) m [.int .i64 a, lv s c] σ = some (.next 0 [.int .i64 ((j + 1 : Nat) : Int), .int .i64 0, lv s (bitsR c a k), lv 0 0] σ) := by
  intro k
  induction k with
  | zero =>
    intro a c m ha hm hc
    obtain ⟨m, rfl⟩ : ∃ q, m = q + 1 := ⟨m - 1, by omega⟩
    have h1 : ¬ ((a : Int) ≤ b) := by omega
    have hw : IntKind.i64.wrap ((j : Int) + 1) = (j : Int) + 1 := wrap_i64 (by omega) (by omega)
    refine iterJ_out ?_ (by decide)
    simp -implicitDefEqProofs [L105_0, B105_0, h1, hw, bitsR]
  | succ k ih =>
    intro a c m ha hm hc
    obtain ⟨m, rfl⟩ : ∃ q, m = q + 1 := ⟨m - 1, by omega⟩
    have h1 : ((a : Int) ≤ b) := by omega
    have h2 : ¬ ((a : Int) < 0) := by omega
    have hw : IntKind.i64.wrap ((a : Int) + 1) = (a : Int) + 1 := wrap_i64 (by omega) (by omega)
    have hs := shl_one (by omega : a < 64)
    have ho := or_nat c (2 ^ a) hc (pow_lt (by omega))
    rw [iterJ_next' (vs' := [.int .i64 ((a + 1 : Nat) : Int), lv s (c ||| 2 ^ a)]) (σ' := σ), ih (a + 1) _ m (by omega) (by omega) (or_lt hc (pow_lt (by omega)))]
    · rfl
    · simp only [Int.one_mul] at hs
      simp -implicitDefEqProofs [L105_0, B105_0, h1, h2, hw, IntKind.bits, hs, ho, -Int.natCast_pow]
theorem l105_2 {n : Nat} (hn : 1200 ≤ n) (z z' : Zs) (cats : List (List UInt8)) (hcl : cats.length ≤ 64) (sp : List Sp) (hsp : sp.length ≤ 1000) (s : Int) (σ : Sto) : ∀ (k j m c : Nat), j + k = sp.length → k < m → c < 18446744073709551616 →
    iterJ 0 (L105_2 (cpJ PR n) (ciJ PR n) n (strsD z cats) (spD z' sp) (.int .i64 sp.length)) m [.int .i64 j, .int .i64 0, lv s c, lv 0 0] σ = some (.done (accD s (lvlAcc cats (sp.drop j) c)) σ) := by
  intro k
  induction k with
  | zero =>
    intro j m c hj hm hc
    obtain ⟨m, rfl⟩ : ∃ q, m = q + 1 := ⟨m - 1, by omega⟩
    have h1 : ¬ ((j : Int) < sp.length) := by omega
    refine iterJ_done ?_
    rw [List.drop_eq_nil_of_le (by omega)]
    simp -implicitDefEqProofs [L105_2, B105_2, h1, lvlAcc, accD]
  | succ k ih =>
    intro j m c hj hm hc
    obtain ⟨m, rfl⟩ : ∃ q, m = q + 1 := ⟨m - 1, by omega⟩
    have h1 : ((j : Int) < sp.length) := by omega
    obtain ⟨p, hp⟩ := get_some (by omega : j < sp.length)
    have f1 := e108 (n := n) z cats p.1 (by omega) (by omega)
    have f2 := e108 (n := n) z cats p.2 (by omega) (by omega)
    rw [drop_get hp, lvlAcc_cons]
    generalize hA : idxAt p.1 cats 0 = A at f1 ⊢
    generalize hB : idxAt p.2 cats 0 = B at f2 ⊢
    have hA' := idxAt_cases p.1 cats 0
    have hB' := idxAt_cases p.2 cats 0
    rw [hA] at hA'
    rw [hB] at hB'
    -- the case of the second name
    have main : ∀ b : Int, (if p.2 ≠ [] then B else A) = b → (b = -1 ∨ ∃ q : Nat, b = q ∧ q < 64) →
        iterJ 0 (L105_2 (cpJ PR n) (ciJ PR n) n (strsD z cats) (spD z' sp) (.int .i64 sp.length)) (m + 1) [.int .i64 j, .int .i64 0, lv s c, lv 0 0] σ =
        some (.done (accD s (if A < 0 ∨ b < 0 then (0, 11) else if b < A then (0, 18) else lvlAcc cats (sp.drop (j + 1)) (bitsR c A.toNat (b.toNat + 1 - A.toNat)))) σ) := by
      intro b hb hbc
      have step : L105_2 (cpJ PR n) (ciJ PR n) n (strsD z cats) (spD z' sp) (.int .i64 sp.length) [.int .i64 j, .int .i64 0, lv s c, lv 0 0] σ =
          L105_1 (cpJ PR n) (ciJ PR n) n (.int .i64 j) (.int .i64 0) (lv s c) (lv 0 0) (.int .i64 A) [.int .i64 b] σ := by
        rw [← hb]
        by_cases h2 : p.2 = []
        · simp only [h2, ne_eq, not_true_eq_false, if_false]
          simp -implicitDefEqProofs [L105_2, B105_2, h1, hp, h2, f1]
        · simp only [h2, ne_eq, not_false_eq_true, if_true]
          simp -implicitDefEqProofs [L105_2, B105_2, h1, hp, h2, f1, f2]
      by_cases hA0 : A < 0
      · rw [if_pos (.inl hA0)]
        refine iterJ_done (step.trans ?_)
        simp -implicitDefEqProofs [L105_1, J105_1, hA0, accD]
      · by_cases hb0 : b < 0
        · rw [if_pos (.inr hb0)]
          refine iterJ_done (step.trans ?_)
          simp -implicitDefEqProofs [L105_1, J105_1, hA0, hb0, accD]
        · rw [if_neg (by omega)]
          by_cases hba : b < A
          · rw [if_pos hba]
            refine iterJ_done (step.trans ?_)
            simp -implicitDefEqProofs [L105_1, J105_1, hA0, hb0, hba, accD]
          · rw [if_neg hba]
            obtain ⟨q, rfl, hq⟩ : ∃ q : Nat, b = q ∧ q < 64 := hbc.resolve_left (by omega)
            obtain ⟨a, rfl⟩ : ∃ a : Nat, A = a := ⟨A.toNat, by omega⟩
            have hl := l105_0 (n := n) s j (by omega) q hq σ (q + 1 - a) a c n (by omega) (by omega) hc
            have : L105_1 (cpJ PR n) (ciJ PR n) n (.int .i64 j) (.int .i64 0) (lv s c) (lv 0 0) (.int .i64 a) [.int .i64 q] σ = iterJ 1 (L105_0 (cpJ PR n) (ciJ PR n) n (.int .i64 j) (.int .i64 0) (lv 0 0) (.int .i64 q)) n [.int .i64 a, lv s c] σ := by
              simp -implicitDefEqProofs [L105_1, J105_1, hA0, hb0, hba]
            rw [iterJ_next' ((step.trans this).trans hl), ih (j + 1) m _ (by omega) (by omega) (bitsR_lt hc (by omega))]
            simp
    refine main _ rfl ?_
    by_cases h2 : p.2 = []
    · simp only [h2, ne_eq, not_true_eq_false, if_false]
      rcases hA' with h | ⟨q, h, hq, -⟩
      · exact .inl h
      · exact .inr ⟨q, by simpa using h, by omega⟩
    · simp only [h2, ne_eq, not_false_eq_true, if_true]
      rcases hB' with h | ⟨q, h, hq, -⟩
      · exact .inl h
      · exact .inr ⟨q, by simpa using h, by omega⟩
def levelV (sens cats : List (List UInt8)) (name : List UInt8) (sp : List Sp) : DVal :=
  if propV sens cats = true then (if idxAt name sens 0 < 0 then lvE 0 0 11 else accD (idxAt name sens 0) (lvlAcc cats sp 0)) else lvE 0 0 2
theorem e105 {n : Nat} (hn : 20020 ≤ n) (z z' z2 : Zs) {sens cats : List (List UInt8)} (hf : Few sens cats) (name : List UInt8) (sp : List Sp) (hsp : sp.length ≤ 1000) :
    cpJ PR n 105 [.agg [.str name, spD z2 sp], strsD z sens, strsD z' cats] = some (levelV sens cats name sp) := by
  obtain ⟨n, rfl⟩ : ∃ m, n = m + 1 := ⟨n - 1, by omega⟩
  have h1 := p46 (n := n) z z' hf (by omega)
  have h2 := e108 (n := n) z sens name (by have := hf.a; omega) (by have := hf.a; omega)
  rw [u105]
  unfold levelV
  cases hP : propV sens cats with
  | false =>
    rw [hP] at h1
    simp -implicitDefEqProofs [D105, h1]
  | true =>
    rw [hP] at h1
    have hcl := (propV_facts hP).2
    rw [if_pos rfl]
    generalize idxAt name sens 0 = s at h2 ⊢
    by_cases hs : s < 0
    · simp -implicitDefEqProofs [D105, h1, h2, hs]
    · have hl := l105_2 (n := n) (by omega) z' z2 cats hcl sp hsp s emptySto sp.length 0 n 0 (by omega) (by omega) (by omega)
      simp only [lv, Int.natCast_zero, List.drop_zero] at hl
      rw [if_neg hs]
      have hback : (accD s (lvlAcc cats sp 0)).handBack emptySto = some (accD s (lvlAcc cats sp 0)) := by
        unfold accD
        split <;> simp
      simp -implicitDefEqProofs [D105, h1, h2, hs, hl, hback]
theorem l132_0 {n : Nat} (s : Int) (j : Nat) (hj : j ≤ 1000) (b : Nat) (hb : b < 64) (σ : Sto) : ∀ (k a c m : Nat), a + k = b + 1 → k < m → c < 18446744073709551616 →
    iterJ 1 (L132_0 (cpJ PR n) (ciJ PR n) n (.int .i64 j) (.int .i64 0) (lv 0 0) (.int .i64 b)) m [.int .i64 a, lv s c] σ = some (.next 0 [.int .i64 ((j + 1 : Nat) : Int), .int .i64 0, lv s (bitsR c a k), lv 0 0] σ) := by
  intro k
  induction k with
  | zero =>
    intro a c m ha hm hc
    obtain ⟨m, rfl⟩ : ∃ q, m = q + 1 := ⟨m - 1, by omega⟩
    have h1 : ¬ ((a : Int) ≤ b) := by omega
    have hw : IntKind.i64.wrap ((j : Int) + 1) = (j : Int) + 1 := wrap_i64 (by omega) (by omega)
    refine iterJ_out ?_ (by decide)
    simp -implicitDefEqProofs [L132_0, B132_0, h1, hw, bitsR]
  | succ k ih =>
    intro a c m ha hm hc
    obtain ⟨m, rfl⟩ : ∃ q, m = q + 1 := ⟨m - 1, by omega⟩
    have h1 : ((a : Int) ≤ b) := by omega
    have h2 : ¬ ((a : Int) < 0) := by omega
    have hw : IntKind.i64.wrap ((a : Int) + 1) = (a : Int) + 1 := wrap_i64 (by omega) (by omega)
    have hu : IntKind.u64.wrap (a : Int) = a := wrap_u64 (by omega) (by omega)
    have hs := shl_one (by omega : a < 64)
    have ho := or_nat c (2 ^ a) hc (pow_lt (by omega))
    rw [iterJ_next' (vs' := [.int .i64 ((a + 1 : Nat) : Int), lv s (c ||| 2 ^ a)]) (σ' := σ), ih (a + 1) _ m (by omega) (by omega) (or_lt hc (pow_lt (by omega)))]
    · rfl
    · simp only [Int.one_mul] at hs
      simp -implicitDefEqProofs [L132_0, B132_0, h1, h2, hw, hu, IntKind.bits, hs, ho, -Int.natCast_pow]
theorem l132_2 {n : Nat} (hn : 1200 ≤ n) (z z' : Zs) (cats : List (List UInt8)) (hcl : cats.length ≤ 64) (name : List UInt8) (sp : List Sp) (hsp : sp.length ≤ 1000) (s : Int) (σ : Sto) : ∀ (k j m c : Nat), j + k = sp.length → k < m → c < 18446744073709551616 →
    iterJ 0 (L132_2 (cpJ PR n) (ciJ PR n) n (strsD z cats) (.agg [.str name, spD z' sp])) m [.int .i64 j, .int .i64 0, lv s c, lv 0 0] σ = some (.done (accD s (lvlAcc cats (sp.drop j) c)) σ) := by
  intro k
  induction k with
  | zero =>
    intro j m c hj hm hc
    obtain ⟨m, rfl⟩ : ∃ q, m = q + 1 := ⟨m - 1, by omega⟩
    have h1 : ¬ ((j : Int) < sp.length) := by omega
    refine iterJ_done ?_
    rw [List.drop_eq_nil_of_le (by omega)]
    simp -implicitDefEqProofs [L132_2, B132_2, h1, lvlAcc, accD]
  | succ k ih =>
    intro j m c hj hm hc
    obtain ⟨m, rfl⟩ : ∃ q, m = q + 1 := ⟨m - 1, by omega⟩
    have h1 : ((j : Int) < sp.length) := by omega
    obtain ⟨p, hp⟩ := get_some (by omega : j < sp.length)
    have f1 := e148 (n := n) z cats p.1 (by omega) (by omega)
    have f2 := e148 (n := n) z cats p.2 (by omega) (by omega)
    rw [drop_get hp, lvlAcc_cons]
    generalize hA : idxAt p.1 cats 0 = A at f1 ⊢
    generalize hB : idxAt p.2 cats 0 = B at f2 ⊢
    have hA' := idxAt_cases p.1 cats 0
    have hB' := idxAt_cases p.2 cats 0
    rw [hA] at hA'
    rw [hB] at hB'
    have main : ∀ b : Int, (if p.2 ≠ [] then B else A) = b → (b = -1 ∨ ∃ q : Nat, b = q ∧ q < 64) →
        iterJ 0 (L132_2 (cpJ PR n) (ciJ PR n) n (strsD z cats) (.agg [.str name, spD z' sp])) (m + 1) [.int .i64 j, .int .i64 0, lv s c, lv 0 0] σ =
        some (.done (accD s (if A < 0 ∨ b < 0 then (0, 11) else if b < A then (0, 18) else lvlAcc cats (sp.drop (j + 1)) (bitsR c A.toNat (b.toNat + 1 - A.toNat)))) σ) := by
      intro b hb hbc
      have step : L132_2 (cpJ PR n) (ciJ PR n) n (strsD z cats) (.agg [.str name, spD z' sp]) [.int .i64 j, .int .i64 0, lv s c, lv 0 0] σ =
          L132_1 (cpJ PR n) (ciJ PR n) n (.int .i64 j) (.int .i64 0) (lv s c) (lv 0 0) (.int .i64 A) [.int .i64 b] σ := by
        rw [← hb]
        by_cases h2 : p.2 = []
        · simp only [h2, ne_eq, not_true_eq_false, if_false]
          simp -implicitDefEqProofs [L132_2, B132_2, h1, hp, h2, f1]
        · simp only [h2, ne_eq, not_false_eq_true, if_true]
          simp -implicitDefEqProofs [L132_2, B132_2, h1, hp, h2, f1, f2]
      by_cases hA0 : A < 0
      · rw [if_pos (.inl hA0)]
        refine iterJ_done (step.trans ?_)
        simp -implicitDefEqProofs [L132_1, J132_1, hA0, accD]
      · by_cases hb0 : b < 0
        · rw [if_pos (.inr hb0)]
          refine iterJ_done (step.trans ?_)
          simp -implicitDefEqProofs [L132_1, J132_1, hA0, hb0, accD]
        · rw [if_neg (by omega)]
          by_cases hba : b < A
          · rw [if_pos hba]
            refine iterJ_done (step.trans ?_)
            simp -implicitDefEqProofs [L132_1, J132_1, hA0, hb0, hba, accD]
          · rw [if_neg hba]
            obtain ⟨q, rfl, hq⟩ : ∃ q : Nat, b = q ∧ q < 64 := hbc.resolve_left (by omega)
            obtain ⟨a, rfl⟩ : ∃ a : Nat, A = a := ⟨A.toNat, by omega⟩
            have hl := l132_0 (n := n) s j (by omega) q hq σ (q + 1 - a) a c n (by omega) (by omega) hc
            have : L132_1 (cpJ PR n) (ciJ PR n) n (.int .i64 j) (.int .i64 0) (lv s c) (lv 0 0) (.int .i64 a) [.int .i64 q] σ = iterJ 1 (L132_0 (cpJ PR n) (ciJ PR n) n (.int .i64 j) (.int .i64 0) (lv 0 0) (.int .i64 q)) n [.int .i64 a, lv s c] σ := by
              simp -implicitDefEqProofs [L132_1, J132_1, hA0, hb0, hba]
            rw [iterJ_next' ((step.trans this).trans hl), ih (j + 1) m _ (by omega) (by omega) (bitsR_lt hc (by omega))]
            simp
    refine main _ rfl ?_
    by_cases h2 : p.2 = []
    · simp only [h2, ne_eq, not_true_eq_false, if_false]
      rcases hA' with h | ⟨q, h, hq, -⟩
      · exact .inl h
      · exact .inr ⟨q, by simpa using h, by omega⟩
    · simp only [h2, ne_eq, not_false_eq_true, if_true]
      rcases hB' with h | ⟨q, h, hq, -⟩
      · exact .inl h
      · exact .inr ⟨q, by simpa using h, by omega⟩
theorem e132 {n : Nat} (hn : 20020 ≤ n) (z z' z2 : Zs) {sens cats : List (List UInt8)} (hf : Few sens cats) (name : List UInt8) (sp : List Sp) (hsp : sp.length ≤ 1000) :
    cpJ PR n 132 [.agg [.str name, spD z2 sp], strsD z sens, strsD z' cats] = some (levelV sens cats name sp) := by
  obtain ⟨n, rfl⟩ : ∃ m, n = m + 1 := ⟨n - 1, by omega⟩
  have h1 := p49 (n := n) z z' hf (by omega)
  have h2 := e148 (n := n) z sens name (by have := hf.a; omega) (by have := hf.a; omega)
  rw [u132]
  unfold levelV
  cases hP : propV sens cats with
  | false =>
    rw [hP] at h1
    simp -implicitDefEqProofs [D132, h1]
  | true =>
    rw [hP] at h1
    have hcl := (propV_facts hP).2
    rw [if_pos rfl]
    generalize idxAt name sens 0 = s at h2 ⊢
    by_cases hs : s < 0
    · simp -implicitDefEqProofs [D132, h1, h2, hs]
    · have hl := l132_2 (n := n) (by omega) z' z2 cats hcl name sp hsp s emptySto sp.length 0 n 0 (by omega) (by omega) (by omega)
      simp only [lv, Int.natCast_zero, List.drop_zero] at hl
      rw [if_neg hs]
      have hback : (accD s (lvlAcc cats sp 0)).handBack emptySto = some (accD s (lvlAcc cats sp 0)) := by
        unfold accD
        split <;> simp
      simp -implicitDefEqProofs [D132, h1, h2, hs, hl, hback]
end Go.Proofs.YthpccimmmfonjaaGreatDoor
namespace Go.Proofs.YthpccimmmfonjaaGreatDoor
set_option linter.unusedVariables false
set_option linter.unusedSimpArgs false
set_option maxRecDepth 20000
set_option maxHeartbeats 2000000
open Go
theorem lvlAcc_lt (cats : List (List UInt8)) (hcl : cats.length ≤ 64) : ∀ (sp : List Sp) (c : Nat), c < 18446744073709551616 → (lvlAcc cats sp c).1 < 18446744073709551616
  | [], c, h => h
  | p :: r, c, h => by
    rw [lvlAcc_cons]
    have hA := idxAt_cases p.1 cats 0
    have hB := idxAt_cases p.2 cats 0
    generalize idxAt p.1 cats 0 = A at hA ⊢
    have hb : (if p.2 ≠ [] then idxAt p.2 cats 0 else A) = -1 ∨ ∃ q : Nat, (if p.2 ≠ [] then idxAt p.2 cats 0 else A) = q ∧ q < 64 := by
      split
      · rcases hB with h | ⟨q, h, hq, -⟩
        · exact .inl h
        · exact .inr ⟨q, by simpa using h, by omega⟩
      · rcases hA with h | ⟨q, h, hq, -⟩
        · exact .inl h
        · exact .inr ⟨q, by simpa using h, by omega⟩
    generalize (if p.2 ≠ [] then idxAt p.2 cats 0 else A) = b at hb ⊢
    split
    · decide
    · split
      · decide
      · refine lvlAcc_lt cats hcl r _ (bitsR_lt h ?_)
        rcases hb with h | ⟨q, h, hq⟩ <;> omega
theorem levelV_form (sens cats : List (List UInt8)) (name : List UInt8) (sp : List Sp) : ∃ (s : Int) (c : Nat) (e : Int), c < 18446744073709551616 ∧ levelV sens cats name sp = lvE s c e := by
  unfold levelV
  split
  · rename_i hP
    split
    · exact ⟨0, 0, 11, by decide, rfl⟩
    · unfold accD
      split
      · exact ⟨_, _, 0, lvlAcc_lt cats (propV_facts hP).2 sp 0 (by decide), rfl⟩
      · exact ⟨0, 0, _, by decide, rfl⟩
  · exact ⟨0, 0, 2, by decide, rfl⟩
abbrev rgE (s : Int) (c : Nat) (s' : Int) (c' : Nat) (e : Int) : DVal := .tup [rg s c s' c', .int .i64 e]
def rangeRV (s : Int) (c : Nat) (e : Int) (s' : Int) (c' : Nat) (e' : Int) (no : Prop) [Decidable no] : DVal :=
  if e ≠ 0 then rgE 0 0 0 0 e else if no then rgE s c s c 0 else if e' ≠ 0 then rgE 0 0 0 0 e' else if domV s' c' s c = true then rgE s c s' c' 0 else rgE 0 0 0 0 18
section
variable {n : Nat} (hn : 20100 ≤ n) (z z' z1 z2 : Zs) {sens cats : List (List UInt8)} (hf : Few sens cats) (n1 n2 : List UInt8) (sp1 sp2 : List Sp) (h1 : sp1.length ≤ 1000) (h2 : sp2.length ≤ 1000)
  (s : Int) (c : Nat) (e : Int) (hc : c < 18446744073709551616) (l9001 : levelV sens cats n1 sp1 = lvE s c e) (s' : Int) (c' : Nat) (e' : Int) (hc' : c' < 18446744073709551616) (l9002 : levelV sens cats n2 sp2 = lvE s' c' e')
include hn hf h1 h2 hc l9001 hc' l9002
theorem e56 : cpJ PR n 56 [.agg [.str n1, spD z1 sp1, .str n2, spD z2 sp2], strsD z sens, strsD z' cats] = some (rangeRV s c e s' c' e' (n2 = [] ∧ sp2 = [])) := by
  obtain ⟨n, rfl⟩ : ∃ m, n = m + 1 := ⟨n - 1, by omega⟩
  have k1 := e105 (n := n) (by omega) z z' z1 hf n1 sp1 h1
  have k2 := e105 (n := n) (by omega) z z' z2 hf n2 sp2 h2
  have k3 := e60 (n := n) (by omega) s' c' hc' s c hc
  rw [l9001] at k1
  rw [l9002] at k2
  rw [u56]
  unfold rangeRV
  by_cases he : e = 0
  · subst he
    have hn2e : n2 = [] ∨ ∃ x xs, n2 = x :: xs := by
      cases n2 with
      | nil => exact .inl rfl
      | cons x xs => exact .inr ⟨x, xs, rfl⟩
    rcases hn2e with hn2 | ⟨x, xs, hn2⟩
    · subst hn2
      by_cases hs2 : sp2 = []
      · subst hs2
        simp -implicitDefEqProofs [D56, k1]
      · have hne : ¬ ((sp2.length : Int) = 0) := fun h => hs2 (List.eq_nil_of_length_eq_zero (by omega))
        by_cases he' : e' = 0
        · subst he'
          cases hd : domV s' c' s c <;> rw [hd] at k3 <;> simp -implicitDefEqProofs [D56, k1, k2, k3, hs2, hd]
        · simp -implicitDefEqProofs [D56, k1, k2, hs2, he']
    · subst hn2
      by_cases he' : e' = 0
      · subst he'
        cases hd : domV s' c' s c <;> rw [hd] at k3 <;> simp -implicitDefEqProofs [D56, k1, k2, k3, hd]
      · simp -implicitDefEqProofs [D56, k1, k2, he']
  · simp -implicitDefEqProofs [D56, k1, he]
theorem e99 : cpJ PR n 99 [.agg [.str n1, spD z1 sp1, .str n2, spD z2 sp2], strsD z sens, strsD z' cats] = some (rangeRV s c e s' c' e' (n2 = [] ∧ sp2 = [])) := by
  obtain ⟨n, rfl⟩ : ∃ m, n = m + 1 := ⟨n - 1, by omega⟩
  have k1 := e132 (n := n) (by omega) z z' z1 hf n1 sp1 h1
  have k2 := e132 (n := n) (by omega) z z' z2 hf n2 sp2 h2
  have k3 := e84 (n := n) (by omega) s' c' hc' s c hc
  have k4 := e84 (n := n) (by omega) s c hc s c hc
  rw [dom_refl] at k4
  rw [l9001] at k1
  rw [l9002] at k2
  rw [u99]
  unfold rangeRV
  by_cases he : e = 0
  · subst he
    have hn2e : n2 = [] ∨ ∃ x xs, n2 = x :: xs := by
      cases n2 with
      | nil => exact .inl rfl
      | cons x xs => exact .inr ⟨x, xs, rfl⟩
    rcases hn2e with hn2 | ⟨x, xs, hn2⟩
    · subst hn2
      by_cases hs2 : sp2 = []
      · subst hs2
        simp -implicitDefEqProofs [D99, L99_0, J99_0, k1, k4]
      · have hpos : 0 < sp2.length := List.length_pos_iff.2 hs2
        have hpos' : (0 : Int) < sp2.length := by omega
        by_cases he' : e' = 0
        · subst he'
          cases hd : domV s' c' s c <;> rw [hd] at k3 <;> simp -implicitDefEqProofs [D99, L99_0, J99_0, k1, k2, k3, hs2, hd, hpos, hpos']
        · simp -implicitDefEqProofs [D99, L99_0, J99_0, k1, k2, hs2, he', hpos, hpos']
    · subst hn2
      by_cases he' : e' = 0
      · subst he'
        cases hd : domV s' c' s c <;> rw [hd] at k3 <;> simp -implicitDefEqProofs [D99, L99_0, J99_0, k1, k2, k3, hd]
      · simp -implicitDefEqProofs [D99, L99_0, J99_0, k1, k2, he']
  · simp -implicitDefEqProofs [D99, k1, he]
end
theorem rangeRV_form (s : Int) (c : Nat) (e : Int) (s' : Int) (c' : Nat) (e' : Int) (no : Prop) [Decidable no] : ∃ (t : Int) (d : Nat) (t' : Int) (d' : Nat) (f : Int), rangeRV s c e s' c' e' no = rgE t d t' d' f := by
  unfold rangeRV
  split
  · exact ⟨_, _, _, _, _, rfl⟩
  · split
    · exact ⟨_, _, _, _, _, rfl⟩
    · split
      · exact ⟨_, _, _, _, _, rfl⟩
      · split
        · exact ⟨_, _, _, _, _, rfl⟩
        · exact ⟨_, _, _, _, _, rfl⟩
end Go.Proofs.YthpccimmmfonjaaGreatDoor
namespace Go.Proofs.YthpccimmmfonjaaGreatDoor
set_option linter.unusedVariables false
set_option linter.unusedSimpArgs false
set_option maxRecDepth 20000
set_option maxHeartbeats 2000000
open Go
theorem u54 (n : Nat) (xs : List DVal) : cpJ PR (n + 1) 54 xs = cutSem xs := by
  have e : PR 54 = some (.prim cutSem) := by kernel_rfl
  simp [cpJ, evJ, e, Function.comp_def]
theorem u135 (n : Nat) (xs : List DVal) : cpJ PR (n + 1) 135 xs = genSplitSem xs := by
  have e : PR 135 = some (.prim genSplitSem) := by kernel_rfl
  simp [cpJ, evJ, e, Function.comp_def]
theorem e54 {n : Nat} (hn : 1 ≤ n) (s : Bs) (hs : s.length ≤ 100000) (c : UInt8) : cpJ PR n 54 [.str s, .str [c]] = some (.tup [.str (Lib.cut s [c]).1, .str (Lib.cut s [c]).2.1, .bool (Lib.cut s [c]).2.2]) := by
  obtain ⟨n, rfl⟩ : ∃ m, n = m + 1 := ⟨n - 1, by omega⟩
  rw [u54]
  simp only [cutSem]
  rw [if_pos (by omega)]
theorem cut_len (s : Bs) (c : UInt8) : (Lib.cut s [c]).1.length ≤ s.length ∧ (Lib.cut s [c]).2.1.length ≤ s.length := by
  unfold Lib.cut
  split <;> simp <;> omega
theorem e103 {n : Nat} (hn : 2 ≤ n) (s : Bs) (hs : s.length ≤ 100000) : cpJ PR n 103 [.str s, .str [44]] = some (.slice false 0 1 ((Lib.splitN s [44] (Lib.count s [44] + 1)).map fun x => [.str x])) := by
  obtain ⟨n, rfl⟩ : ∃ m, n = m + 1 := ⟨n - 1, by omega⟩
  have h : cpJ PR n 135 [.str s, .str [44], .int .i64 0, .int .i64 (-1)] = some (.slice false 0 1 ((Lib.splitN s [44] (Lib.count s [44] + 1)).map fun x => [.str x])) := by
    obtain ⟨n, rfl⟩ : ∃ m, n = m + 1 := ⟨n - 1, by omega⟩
    rw [u135]
    simp only [genSplitSem]
    rw [if_pos ⟨by omega, by simp⟩]
  rw [u103]
  simp -implicitDefEqProofs [D103, h]
theorem e104 {n : Nat} (u : Bs) (hu : u.length ≤ 2000) (hn : 3000 ≤ n) : cpJ PR n 104 [.str u] =
    some (.tup [.agg [.str (Lib.cut u [46]).1, .str (Lib.cut u [46]).2.1], .bool (wordV (Lib.cut u [46]).1 && (!(Lib.cut u [46]).2.2 || wordV (Lib.cut u [46]).2.1))]) := by
  obtain ⟨n, rfl⟩ : ∃ m, n = m + 1 := ⟨n - 1, by omega⟩
  have h1 := e54 (n := n) (by omega) u (by omega) 46
  have hl := cut_len u 46
  have h2 := e102 (n := n) (Lib.cut u [46]).1 (by omega) (by omega)
  have h3 := e102 (n := n) (Lib.cut u [46]).2.1 (by omega) (by omega)
  rw [u104]
  generalize (Lib.cut u [46]).1 = a at h1 h2 ⊢
  generalize (Lib.cut u [46]).2.1 = b at h1 h3 ⊢
  generalize (Lib.cut u [46]).2.2 = q at h1 ⊢
  cases hq : q <;> cases ha : wordV a <;> cases hb : wordV b <;> rw [hq] at h1 <;> rw [ha] at h2 <;> rw [hb] at h3 <;> simp -implicitDefEqProofs [D104, h1, h2, h3]
theorem spanP_eq (u : Bs) : spanP u = if (wordV (Lib.cut u [46]).1 && (!(Lib.cut u [46]).2.2 || wordV (Lib.cut u [46]).2.1)) = true then some ((Lib.cut u [46]).1, (Lib.cut u [46]).2.1) else none := by
  unfold spanP
  simp only
  generalize (Lib.cut u [46]).1 = a
  generalize (Lib.cut u [46]).2.1 = b
  generalize (Lib.cut u [46]).2.2 = q
  cases q <;> cases wordV a <;> cases wordV b <;> simp
def spRow (p : Bs × Bs) : List DVal := [.str p.1, .str p.2]
theorem l55 {n : Nat} (hn : 5000 ≤ n) (name : Bs) (ps : List Bs) (hps : ps.length ≤ 3000) (hpl : ∀ p ∈ ps, p.length ≤ 2000) (σ : Sto) : ∀ (k j m : Nat) (es : List (List DVal)) (u : DVal), j + k = ps.length → k < m → es.length ≤ j →
    (∀ sp, mapO spanP (ps.drop j) = some sp → iterJ 0 (L55_0 (cpJ PR n) (ciJ PR n) n (.slice false 0 1 (ps.map fun x => [.str x])) (.int .i64 ps.length)) m [.int .i64 j, u, .agg [.str name, (apd σ 2 es).1], .agg [.str [], .nils]] (apd σ 2 es).2 =
      some (.done (.tup [.agg [.str name, (apd σ 2 (es ++ sp.map spRow)).1], .bool true]) (apd σ 2 (es ++ sp.map spRow)).2)) ∧
    (mapO spanP (ps.drop j) = none → ∃ es', iterJ 0 (L55_0 (cpJ PR n) (ciJ PR n) n (.slice false 0 1 (ps.map fun x => [.str x])) (.int .i64 ps.length)) m [.int .i64 j, u, .agg [.str name, (apd σ 2 es).1], .agg [.str [], .nils]] (apd σ 2 es).2 =
      some (.done (.tup [.agg [.str name, (apd σ 2 es').1], .bool false]) (apd σ 2 es').2)) := by
  intro k
  induction k with
  | zero =>
    intro j m es u hj hm hes
    obtain ⟨m, rfl⟩ : ∃ q, m = q + 1 := ⟨m - 1, by omega⟩
    have hj' : ¬ ((j : Int) < ps.length) := by omega
    rw [List.drop_eq_nil_of_le (by omega)]
    refine ⟨fun sp h => ?_, fun h => by simp [mapO] at h⟩
    simp only [mapO, Option.some.injEq] at h
    subst h
    refine iterJ_done ?_
    simp -implicitDefEqProofs [L55_0, B55_0, hj']
  | succ k ih =>
    intro j m es u hj hm hes
    obtain ⟨m, rfl⟩ : ∃ q, m = q + 1 := ⟨m - 1, by omega⟩
    have hj' : ((j : Int) < ps.length) := by omega
    obtain ⟨p, hp⟩ := get_some (by omega : j < ps.length)
    have hw : IntKind.i64.wrap ((j : Int) + 1) = (j : Int) + 1 := wrap_i64 (by omega) (by omega)
    have h1 := e104 (n := n) p (hpl p (List.mem_of_getElem? hp)) (by omega)
    have h2 := spanP_eq p
    rw [drop_get hp]
    generalize (Lib.cut p [46]).1 = a at h1 h2
    generalize (Lib.cut p [46]).2.1 = b at h1 h2
    generalize (wordV a && (!(Lib.cut p [46]).2.2 || wordV b)) = ok at h1 h2
    have ha := app_apd (σ := σ) (sz := 2) (own := 1) (es := es) (r := spRow (a, b)) (by omega)
    cases ok with
    | true =>
      rw [if_pos rfl] at h2
      have step : L55_0 (cpJ PR n) (ciJ PR n) n (.slice false 0 1 (ps.map fun x => [.str x])) (.int .i64 ps.length) [.int .i64 j, u, .agg [.str name, (apd σ 2 es).1], .agg [.str [], .nils]] (apd σ 2 es).2 =
          some (.next 0 [.int .i64 ((j + 1 : Nat) : Int), u, .agg [.str name, (apd σ 2 (es ++ [spRow (a, b)])).1], .agg [.str [], .nils]] (apd σ 2 (es ++ [spRow (a, b)])).2) := by
        simp only [spRow] at ha ⊢
        simp -implicitDefEqProofs [L55_0, B55_0, hj', hp, h1, ha, hw]
      obtain ⟨i1, i2⟩ := ih (j + 1) m (es ++ [spRow (a, b)]) u (by omega) (by omega) (by simp; omega)
      simp only [mapO, h2]
      rw [iterJ_next' step]
      refine ⟨fun sp h => ?_, fun h => ?_⟩
      · split at h
        · rename_i y ys e9001 e9002
          simp only [Option.some.injEq] at h e9001
          subst h e9001
          rw [i1 _ e9002]
          simp
        · cases h
      · split at h
        · cases h
        · rename_i hno
          refine i2 ?_
          cases hd : mapO spanP (ps.drop (j + 1)) with
          | none => rfl
          | some ys => exact absurd hd (hno _ ys rfl)
    | false =>
      rw [if_neg (by decide)] at h2
      have hm : mapO spanP (p :: ps.drop (j + 1)) = none := by simp only [mapO, h2]
      rw [hm]
      refine ⟨fun sp h => (by cases h), fun _ => ⟨es, iterJ_done ?_⟩⟩
      simp -implicitDefEqProofs [L55_0, B55_0, hj', hp, h1]
theorem splitN_len (s : Bs) : (Lib.splitN s [44] (Lib.count s [44] + 1)).length ≤ s.length + 1 ∧ ∀ p ∈ Lib.splitN s [44] (Lib.count s [44] + 1), p.length ≤ s.length := by
  obtain ⟨p, r, rfl, hp, hr⟩ := split_exists 44 s
  rw [split_join hp hr]
  have h1 := joinC_len (c := 44) (r := r) (p := p)
  refine ⟨by simp; omega, fun q hq => ?_⟩
  rcases List.mem_cons.1 hq with rfl | hq
  · simp [joinC]
  · have : ∀ {r : List Bs}, q ∈ r → q.length ≤ (r.flatMap fun x => (44 : UInt8) :: x).length := by
      intro r
      induction r with
      | nil => intro h; simp at h
      | cons x r ih =>
        intro h
        rcases List.mem_cons.1 h with rfl | h
        · simp only [List.flatMap_cons, List.length_append, List.length_cons]; omega
        · have := ih h; simp only [List.flatMap_cons, List.length_append, List.length_cons]; omega
    have := this hq
    simp only [joinC, List.length_append]; omega
theorem e55 {n : Nat} (u : Bs) (hu : u.length ≤ 1500) (hn : 6000 ≤ n) :
    (∃ l, parsedP u = some l ∧ cpJ PR n 55 [.str u] = some (.tup [ltD l.1 (l.2.map spRow), .bool true])) ∨
    (parsedP u = none ∧ ∃ nm0 rows, cpJ PR n 55 [.str u] = some (.tup [ltD nm0 rows, .bool false])) := by
  obtain ⟨n, rfl⟩ : ∃ m, n = m + 1 := ⟨n - 1, by omega⟩
  have h1 := e54 (n := n) (by omega) u (by omega) 58
  have hl := cut_len u 58
  have h2 := e102 (n := n) (Lib.cut u [58]).1 (by omega) (by omega)
  have h3 := e103 (n := n) (by omega) (Lib.cut u [58]).2.1 (by omega)
  have hs := splitN_len (Lib.cut u [58]).2.1
  rw [u55]
  unfold parsedP
  simp only
  generalize (Lib.cut u [58]).1 = a at h1 h2 hl ⊢
  generalize (Lib.cut u [58]).2.1 = b at h1 h3 hl hs ⊢
  generalize (Lib.cut u [58]).2.2 = q at h1 ⊢
  cases ha : wordV a with
  | false =>
    rw [ha] at h2
    refine .inr ⟨by simp, a, [], ?_⟩
    simp -implicitDefEqProofs [D55, h1, h2, slD_nil]
  | true =>
    rw [ha] at h2
    cases q with
    | false =>
      refine .inl ⟨(a, []), by simp, ?_⟩
      simp -implicitDefEqProofs [D55, h1, h2, slD_nil]
    | true =>
      generalize Lib.splitN b [44] (Lib.count b [44] + 1) = ps at h3 hs ⊢
      obtain ⟨i1, i2⟩ := l55 (n := n) (by omega) a ps (by omega) (fun p hp => by have := hs.2 p hp; omega) emptySto ps.length 0 n [] (.bool false) (by omega) (by omega) (by simp)
      simp only [List.drop_zero, Int.natCast_zero, List.nil_append] at i1 i2
      have e : apd emptySto 2 [] = (.nils, emptySto) := rfl
      rw [e] at i1 i2
      cases hm : mapO spanP ps with
      | some sp =>
        have := i1 sp hm
        refine .inl ⟨(a, sp), by simp, ?_⟩
        simp -implicitDefEqProofs [D55, h1, h2, h3, this]
      | none =>
        obtain ⟨es', this⟩ := i2 hm
        refine .inr ⟨by simp, a, es', ?_⟩
        simp -implicitDefEqProofs [D55, h1, h2, h3, this]
end Go.Proofs.YthpccimmmfonjaaGreatDoor
namespace Go.Proofs.YthpccimmmfonjaaGreatDoor
set_option linter.unusedVariables false
set_option linter.unusedSimpArgs false
set_option maxRecDepth 20000
set_option maxHeartbeats 4000000
open Go
theorem l150 {n : Nat} (hn : 2 ≤ n) (s : Bs) (hs : s.length ≤ 100000) (σ : Sto) : ∀ (k i m : Nat), i + k = s.length → k < m →
    iterJ 0 (L150_0 (cpJ PR n) (ciJ PR n) n (.str s)) m [.int .i64 i] σ = some (.done (.int .i64 ((i + (tw (s.drop i)).length : Nat) : Int)) σ) := by
  intro k
  induction k with
  | zero =>
    intro i m hi hm
    obtain ⟨m, rfl⟩ : ∃ q, m = q + 1 := ⟨m - 1, by omega⟩
    have hi' : ¬ ((i : Int) < s.length) := by omega
    refine iterJ_done ?_
    rw [List.drop_eq_nil_of_le (by omega)]
    simp -implicitDefEqProofs [L150_0, B150_0, hi', tw]
  | succ k ih =>
    intro i m hi hm
    obtain ⟨m, rfl⟩ : ∃ q, m = q + 1 := ⟨m - 1, by omega⟩
    have hi' : ((i : Int) < s.length) := by omega
    obtain ⟨x, hx⟩ := get_some (by omega : i < s.length)
    have hw : IntKind.i64.wrap ((i : Int) + 1) = (i : Int) + 1 := wrap_i64 (by omega) (by omega)
    have he := e149 (n := n) (by omega) x.toNat
    rw [drop_get hx]
    cases hb : chV x.toNat with
    | true =>
      rw [hb] at he
      rw [iterJ_next' (vs' := [.int .i64 ((i + 1 : Nat) : Int)]) (σ' := σ) (by simp -implicitDefEqProofs [L150_0, B150_0, hi', hx, he, hw]), ih (i + 1) m (by omega) (by omega)]
      have : tw (x :: s.drop (i + 1)) = x :: tw (s.drop (i + 1)) := by simp [tw, isL, hb]
      rw [this]
      simp only [List.length_cons]
      congr 4
      omega
    | false =>
      rw [hb] at he
      refine iterJ_done ?_
      have : tw (x :: s.drop (i + 1)) = [] := by simp [tw, isL, hb]
      rw [this]
      simp -implicitDefEqProofs [L150_0, B150_0, hi', hx, he]
theorem take_tw (u : Bs) : u.take (tw u).length = tw u ∧ u.drop (tw u).length = dw u := by
  have e := tw_dw u
  generalize tw u = a at e ⊢
  generalize dw u = b at e ⊢
  subst e
  simp
theorem e150 {n : Nat} (s : Bs) (hs : s.length ≤ 2000) (hn : 3000 ≤ n) (a : Nat) (ha : a ≤ s.length) :
    ∃ b : Nat, cpJ PR n 150 [.str s, .int .i64 a] = some (.int .i64 b) ∧ a ≤ b ∧ b ≤ s.length ∧ (s.drop a).take (b - a) = tw (s.drop a) ∧ s.drop b = dw (s.drop a) ∧ (b = a ↔ tw (s.drop a) = []) := by
  obtain ⟨n, rfl⟩ : ∃ m, n = m + 1 := ⟨n - 1, by omega⟩
  have h := l150 (n := n) (by omega) s (by omega) emptySto (s.length - a) a n (by omega) (by omega)
  have e := tw_dw (s.drop a)
  have hlen : (tw (s.drop a)).length + (dw (s.drop a)).length = s.length - a := by rw [← List.length_append, e, List.length_drop]
  refine ⟨a + (tw (s.drop a)).length, ?_, by omega, by omega, ?_, ?_, ?_⟩
  · rw [u150]
    simp -implicitDefEqProofs only [D150, h, finP_done, DVal.handBack, DVal.sealVal, DVal.sealCell]
  · rw [show a + (tw (s.drop a)).length - a = (tw (s.drop a)).length by omega]
    exact (take_tw _).1
  · rw [← List.drop_drop]
    exact (take_tw _).2
  · constructor
    · intro h; exact List.eq_nil_of_length_eq_zero (by omega)
    · intro h; rw [h]; simp
theorem slc_ij {s : Bs} {a b : Nat} (h1 : a ≤ b) (h2 : b ≤ s.length) : slcSSem true true [.str s, .int .i64 a, .int .i64 b] = some (.str ((s.drop a).take (b - a))) := by
  have e9001 : (0 : Int) ≤ b ∧ (b : Int) ≤ s.length := by omega
  have e9002 : (0 : Int) ≤ a ∧ (a : Int) ≤ (b : Int) := by omega
  simp only [slcSSem, bounds, e9001, and_self, if_true, Int.toNat_natCast, e9002, Option.map_some]
theorem u8_eq (c d : UInt8) : (((c.toNat : Nat) : Int) == ((d.toNat : Nat) : Int)) = decide (c = d) := by
  by_cases h : c = d
  · subst h; simp
  · have : ¬ (((c.toNat : Nat) : Int) = ((d.toNat : Nat) : Int)) := fun e => h (UInt8.toNat_inj.1 (by omega))
    simp [h, this]
theorem step64a {n : Nat} (hn : 3000 ≤ n) (s : Bs) (hs : s.length ≤ 2000) (name : Bs) (σ : Sto) (k i0 : Nat) (hlt : k < s.length) (c : UInt8) (hc : s[k]? = some c) :
    (c ≠ 58 → L131_1 (cpJ PR n) (ciJ PR n) n (.str s) [.int .i64 k, .bool false, .int .i64 0, .int .i64 i0, .agg [.str name, (apd σ 2 []).1], .agg [.str [], .nils]] (apd σ 2 []).2 = some (.done (.tup [.agg [.str name, (apd σ 2 []).1], .int .i64 k, .bool true]) (apd σ 2 []).2)) ∧
    (c = 58 → ∀ u, s.drop (k + 1) = u →
      (tw u = [] → ∃ b : Nat, L131_1 (cpJ PR n) (ciJ PR n) n (.str s) [.int .i64 k, .bool false, .int .i64 0, .int .i64 i0, .agg [.str name, (apd σ 2 []).1], .agg [.str [], .nils]] (apd σ 2 []).2 = some (.done (.tup [.agg [.str name, (apd σ 2 []).1], .int .i64 b, .bool false]) (apd σ 2 []).2)) ∧
      (tw u ≠ [] → (∀ v, dw u ≠ 46 :: v) → ∃ b i1 : Nat, k < b ∧ b ≤ s.length ∧ s.drop b = dw u ∧ L131_1 (cpJ PR n) (ciJ PR n) n (.str s) [.int .i64 k, .bool false, .int .i64 0, .int .i64 i0, .agg [.str name, (apd σ 2 []).1], .agg [.str [], .nils]] (apd σ 2 []).2 = some (.next 0 [.int .i64 b, .bool false, .int .i64 0, .int .i64 i1, .agg [.str name, (apd σ 2 ([] ++ [spRow (tw u, [])])).1], .agg [.str [], .nils]] (apd σ 2 ([] ++ [spRow (tw u, [])])).2)) ∧
      (tw u ≠ [] → ∀ v, dw u = 46 :: v →
        (tw v = [] → ∃ b : Nat, L131_1 (cpJ PR n) (ciJ PR n) n (.str s) [.int .i64 k, .bool false, .int .i64 0, .int .i64 i0, .agg [.str name, (apd σ 2 []).1], .agg [.str [], .nils]] (apd σ 2 []).2 = some (.done (.tup [.agg [.str name, (apd σ 2 []).1], .int .i64 b, .bool false]) (apd σ 2 []).2)) ∧
        (tw v ≠ [] → ∃ b i1 : Nat, k < b ∧ b ≤ s.length ∧ s.drop b = dw v ∧ L131_1 (cpJ PR n) (ciJ PR n) n (.str s) [.int .i64 k, .bool false, .int .i64 0, .int .i64 i0, .agg [.str name, (apd σ 2 []).1], .agg [.str [], .nils]] (apd σ 2 []).2 = some (.next 0 [.int .i64 b, .bool false, .int .i64 0, .int .i64 i1, .agg [.str name, (apd σ 2 ([] ++ [spRow (tw u, tw v)])).1], .agg [.str [], .nils]] (apd σ 2 ([] ++ [spRow (tw u, tw v)])).2)))) := by
  have hlt' : ((k : Int) < s.length) := by omega
  have cq := u8_eq c 58
  have tq : (((58 : UInt8).toNat : Nat) : Int) = 58 := by decide
  rw [tq] at cq
  constructor
  · intro hne0
    have cq' : ((c.toNat : Int) == 58) = false := by rw [cq]; simp [hne0]
    have cq2 : ¬ ((c.toNat : Int) = 58) := by simpa using cq'
    simp -implicitDefEqProofs [L131_1, B131_1, hlt', hc, cq', cq2, apd]
  · rintro rfl u hu
    obtain ⟨k1, hk1, hw1⟩ : ∃ k1 : Nat, k1 = k + 1 ∧ IntKind.i64.wrap ((k : Int) + 1) = (k1 : Int) := ⟨k + 1, rfl, by rw [wrap_i64 (by omega) (by omega)]; rfl⟩
    have hu1 : s.drop k1 = u := by rw [hk1]; exact hu
    obtain ⟨b, w1, w2, w3, w4, w5, w6⟩ := e150 (n := n) s hs hn k1 (by omega)
    rw [hu1] at w4 w5 w6
    have hsl := slc_ij w2 w3
    rw [hu1, w4] at hsl
    refine ⟨fun hf => ⟨b, ?_⟩, fun hf hno => ?_, fun hf v hv => ?_⟩
    · have hbe : ((b : Int) == (k1 : Int)) = true := by rw [w6.2 hf]; simp
      simp -implicitDefEqProofs [L131_1, B131_1, hlt', hc, hw1, w1, hsl, hbe, apd]
    · have hbne : b ≠ k1 := fun h => hf (w6.1 h)
      have hbe : ((b : Int) == (k1 : Int)) = false := by simp; omega
      have ha := app_apd (σ := σ) (sz := 2) (own := 1) (es := []) (r := spRow (tw u, [])) (by simp; try omega)
      refine ⟨b, k1, by omega, w3, w5, ?_⟩
      by_cases hbl : b < s.length
      · have hbl' : ((b : Int) < s.length) := by omega
        obtain ⟨d, hd⟩ := get_some hbl
        have hd46 : d ≠ 46 := fun h => by subst h; exact hno (s.drop (b + 1)) (by rw [← w5, drop_get hd])
        have dq := u8_eq d 46
        have tq2 : (((46 : UInt8).toNat : Nat) : Int) = 46 := by decide
        rw [tq2] at dq
        have dq' : ((d.toNat : Int) == 46) = false := by rw [dq]; simp [hd46]
        have dq2 : ¬ ((d.toNat : Int) = 46) := by simpa using dq'
        simp only [spRow, apd, List.nil_append] at ha ⊢
        simp -implicitDefEqProofs [L131_1, B131_1, L131_0, J131_0, hlt', hc, hw1, w1, hsl, hbe, hbl', hd, dq', dq2, ha, apd]
      · have hbl' : ¬ ((b : Int) < s.length) := by omega
        simp only [spRow, apd, List.nil_append] at ha ⊢
        simp -implicitDefEqProofs [L131_1, B131_1, L131_0, J131_0, hlt', hc, hw1, w1, hsl, hbe, hbl', ha, apd]
    · have hbne : b ≠ k1 := fun h => hf (w6.1 h)
      have hbe : ((b : Int) == (k1 : Int)) = false := by simp; omega
      have hbl : b < s.length := by
        refine Nat.lt_of_not_le fun h => ?_
        rw [List.drop_eq_nil_of_le h, hv] at w5
        cases w5
      have hbl' : ((b : Int) < s.length) := by omega
      have hd : s[b]? = some 46 := by
        have : (s.drop b)[0]? = some 46 := by rw [w5, hv]; rfl
        simpa using this
      obtain ⟨k2, hk2, hw2⟩ : ∃ k2 : Nat, k2 = b + 1 ∧ IntKind.i64.wrap ((b : Int) + 1) = (k2 : Int) := ⟨b + 1, rfl, by rw [wrap_i64 (by omega) (by omega)]; rfl⟩
      have hv1 : s.drop k2 = v := by
        have := drop_get hd
        rw [w5, hv] at this
        rw [hk2]
        exact (List.cons.inj this).2.symm
      obtain ⟨b2, x1, x2, x3, x4, x5, x6⟩ := e150 (n := n) s hs hn k2 (by omega)
      rw [hv1] at x4 x5 x6
      have hsl2 := slc_ij x2 x3
      rw [hv1, x4] at hsl2
      refine ⟨fun ht => ⟨b2, ?_⟩, fun ht => ⟨b2, k2, by omega, x3, x5, ?_⟩⟩
      · have hbe2 : ((b2 : Int) == (k2 : Int)) = true := by rw [x6.2 ht]; simp
        simp -implicitDefEqProofs [L131_1, B131_1, L131_0, J131_0, hlt', hc, hw1, w1, hsl, hbe, hbl', hd, hw2, x1, hsl2, hbe2, apd]
      · have hbne2 : b2 ≠ k2 := fun h => ht (x6.1 h)
        have hbe2 : ((b2 : Int) == (k2 : Int)) = false := by simp; omega
        have ha := app_apd (σ := σ) (sz := 2) (own := 1) (es := []) (r := spRow (tw u, tw v)) (by simp; try omega)
        simp only [spRow, apd, List.nil_append] at ha ⊢
        simp -implicitDefEqProofs [L131_1, B131_1, L131_0, J131_0, hlt', hc, hw1, w1, hsl, hbe, hbl', hd, hw2, x1, hsl2, hbe2, ha, apd]
theorem step64b {n : Nat} (hn : 3000 ≤ n) (s : Bs) (hs : s.length ≤ 2000) (name : Bs) (σ : Sto) (k i0 : Nat) (es : List (List DVal)) (hne : es ≠ []) (hes : es.length ≤ 2000) (hlt : k < s.length) (c : UInt8) (hc : s[k]? = some c) :
    (c ≠ 44 → L131_1 (cpJ PR n) (ciJ PR n) n (.str s) [.int .i64 k, .bool false, .int .i64 0, .int .i64 i0, .agg [.str name, (apd σ 2 es).1], .agg [.str [], .nils]] (apd σ 2 es).2 = some (.done (.tup [.agg [.str name, (apd σ 2 es).1], .int .i64 k, .bool true]) (apd σ 2 es).2)) ∧
    (c = 44 → ∀ u, s.drop (k + 1) = u →
      (tw u = [] → ∃ b : Nat, L131_1 (cpJ PR n) (ciJ PR n) n (.str s) [.int .i64 k, .bool false, .int .i64 0, .int .i64 i0, .agg [.str name, (apd σ 2 es).1], .agg [.str [], .nils]] (apd σ 2 es).2 = some (.done (.tup [.agg [.str name, (apd σ 2 es).1], .int .i64 b, .bool false]) (apd σ 2 es).2)) ∧
      (tw u ≠ [] → (∀ v, dw u ≠ 46 :: v) → ∃ b i1 : Nat, k < b ∧ b ≤ s.length ∧ s.drop b = dw u ∧ L131_1 (cpJ PR n) (ciJ PR n) n (.str s) [.int .i64 k, .bool false, .int .i64 0, .int .i64 i0, .agg [.str name, (apd σ 2 es).1], .agg [.str [], .nils]] (apd σ 2 es).2 = some (.next 0 [.int .i64 b, .bool false, .int .i64 0, .int .i64 i1, .agg [.str name, (apd σ 2 (es ++ [spRow (tw u, [])])).1], .agg [.str [], .nils]] (apd σ 2 (es ++ [spRow (tw u, [])])).2)) ∧
      (tw u ≠ [] → ∀ v, dw u = 46 :: v →
        (tw v = [] → ∃ b : Nat, L131_1 (cpJ PR n) (ciJ PR n) n (.str s) [.int .i64 k, .bool false, .int .i64 0, .int .i64 i0, .agg [.str name, (apd σ 2 es).1], .agg [.str [], .nils]] (apd σ 2 es).2 = some (.done (.tup [.agg [.str name, (apd σ 2 es).1], .int .i64 b, .bool false]) (apd σ 2 es).2)) ∧
        (tw v ≠ [] → ∃ b i1 : Nat, k < b ∧ b ≤ s.length ∧ s.drop b = dw v ∧ L131_1 (cpJ PR n) (ciJ PR n) n (.str s) [.int .i64 k, .bool false, .int .i64 0, .int .i64 i0, .agg [.str name, (apd σ 2 es).1], .agg [.str [], .nils]] (apd σ 2 es).2 = some (.next 0 [.int .i64 b, .bool false, .int .i64 0, .int .i64 i1, .agg [.str name, (apd σ 2 (es ++ [spRow (tw u, tw v)])).1], .agg [.str [], .nils]] (apd σ 2 (es ++ [spRow (tw u, tw v)])).2)))) := by
  have hlt' : ((k : Int) < s.length) := by omega
  have cq := u8_eq c 44
  have tq : (((44 : UInt8).toNat : Nat) : Int) = 44 := by decide
  rw [tq] at cq
  have hl0 : ¬ es.length = 0 := by have := List.length_pos_iff.2 hne; omega
  have hpos : 0 < es.length := List.length_pos_iff.2 hne
  have hposI : (0 : Int) < es.length := by omega
  have q1 : ((es.length : Int) == 0) = false := by simp [hne]
  constructor
  · intro hne0
    have cq' : ((c.toNat : Int) == 44) = false := by rw [cq]; simp [hne0]
    have cq2 : ¬ ((c.toNat : Int) = 44) := by simpa using cq'
    simp -implicitDefEqProofs [L131_1, B131_1, hlt', hc, cq', cq2, hne, hl0, hpos, hposI, q1]
  · rintro rfl u hu
    obtain ⟨k1, hk1, hw1⟩ : ∃ k1 : Nat, k1 = k + 1 ∧ IntKind.i64.wrap ((k : Int) + 1) = (k1 : Int) := ⟨k + 1, rfl, by rw [wrap_i64 (by omega) (by omega)]; rfl⟩
    have hu1 : s.drop k1 = u := by rw [hk1]; exact hu
    obtain ⟨b, w1, w2, w3, w4, w5, w6⟩ := e150 (n := n) s hs hn k1 (by omega)
    rw [hu1] at w4 w5 w6
    have hsl := slc_ij w2 w3
    rw [hu1, w4] at hsl
    refine ⟨fun hf => ⟨b, ?_⟩, fun hf hno => ?_, fun hf v hv => ?_⟩
    · have hbe : ((b : Int) == (k1 : Int)) = true := by rw [w6.2 hf]; simp
      simp -implicitDefEqProofs [L131_1, B131_1, hlt', hc, hw1, w1, hsl, hbe, hne, hl0, hpos, hposI, q1]
    · have hbne : b ≠ k1 := fun h => hf (w6.1 h)
      have hbe : ((b : Int) == (k1 : Int)) = false := by simp; omega
      have ha := app_apd (σ := σ) (sz := 2) (own := 1) (es := es) (r := spRow (tw u, [])) (by simp; try omega)
      refine ⟨b, k1, by omega, w3, w5, ?_⟩
      by_cases hbl : b < s.length
      · have hbl' : ((b : Int) < s.length) := by omega
        obtain ⟨d, hd⟩ := get_some hbl
        have hd46 : d ≠ 46 := fun h => by subst h; exact hno (s.drop (b + 1)) (by rw [← w5, drop_get hd])
        have dq := u8_eq d 46
        have tq2 : (((46 : UInt8).toNat : Nat) : Int) = 46 := by decide
        rw [tq2] at dq
        have dq' : ((d.toNat : Int) == 46) = false := by rw [dq]; simp [hd46]
        have dq2 : ¬ ((d.toNat : Int) = 46) := by simpa using dq'
        simp only [spRow] at ha ⊢
        simp -implicitDefEqProofs [L131_1, B131_1, L131_0, J131_0, hlt', hc, hw1, w1, hsl, hbe, hbl', hd, dq', dq2, ha, hne, hl0, hpos, hposI, q1]
      · have hbl' : ¬ ((b : Int) < s.length) := by omega
        simp only [spRow] at ha ⊢
        simp -implicitDefEqProofs [L131_1, B131_1, L131_0, J131_0, hlt', hc, hw1, w1, hsl, hbe, hbl', ha, hne, hl0, hpos, hposI, q1]
    · have hbne : b ≠ k1 := fun h => hf (w6.1 h)
      have hbe : ((b : Int) == (k1 : Int)) = false := by simp; omega
      have hbl : b < s.length := by
        refine Nat.lt_of_not_le fun h => ?_
        rw [List.drop_eq_nil_of_le h, hv] at w5
        cases w5
      have hbl' : ((b : Int) < s.length) := by omega
      have hd : s[b]? = some 46 := by
        have : (s.drop b)[0]? = some 46 := by rw [w5, hv]; rfl
        simpa using this
      obtain ⟨k2, hk2, hw2⟩ : ∃ k2 : Nat, k2 = b + 1 ∧ IntKind.i64.wrap ((b : Int) + 1) = (k2 : Int) := ⟨b + 1, rfl, by rw [wrap_i64 (by omega) (by omega)]; rfl⟩
      have hv1 : s.drop k2 = v := by
        have := drop_get hd
        rw [w5, hv] at this
        rw [hk2]
        exact (List.cons.inj this).2.symm
      obtain ⟨b2, x1, x2, x3, x4, x5, x6⟩ := e150 (n := n) s hs hn k2 (by omega)
      rw [hv1] at x4 x5 x6
      have hsl2 := slc_ij x2 x3
      rw [hv1, x4] at hsl2
      refine ⟨fun ht => ⟨b2, ?_⟩, fun ht => ⟨b2, k2, by omega, x3, x5, ?_⟩⟩
      · have hbe2 : ((b2 : Int) == (k2 : Int)) = true := by rw [x6.2 ht]; simp
        simp -implicitDefEqProofs [L131_1, B131_1, L131_0, J131_0, hlt', hc, hw1, w1, hsl, hbe, hbl', hd, hw2, x1, hsl2, hbe2, hne, hl0, hpos, hposI, q1]
      · have hbne2 : b2 ≠ k2 := fun h => ht (x6.1 h)
        have hbe2 : ((b2 : Int) == (k2 : Int)) = false := by simp; omega
        have ha := app_apd (σ := σ) (sz := 2) (own := 1) (es := es) (r := spRow (tw u, tw v)) (by simp; try omega)
        simp only [spRow] at ha ⊢
        simp -implicitDefEqProofs [L131_1, B131_1, L131_0, J131_0, hlt', hc, hw1, w1, hsl, hbe, hbl', hd, hw2, x1, hsl2, hbe2, ha, hne, hl0, hpos, hposI, q1]
theorem spansR_cons (k : Nat) (first : Bool) (c : UInt8) (u : Bs) : spansR (k + 1) first (c :: u) = if c = sepB first then
        if tw u = [] then none
        else match dw u with
          | 46 :: v => if tw v = [] then none else (spansR k false (dw v)).map fun x => ((tw u, tw v) :: x.1, x.2)
          | w => (spansR k false w).map fun x => ((tw u, []) :: x.1, x.2)
      else some ([], c :: u) := rfl
abbrev st64 (k i0 : Nat) (name : Bs) (d : DVal) : List DVal := [.int .i64 k, .bool false, .int .i64 0, .int .i64 i0, .agg [.str name, d], .agg [.str [], .nils]]
def Res64 (s name : Bs) (σ : Sto) (o : Option (List (Bs × Bs) × Bs)) (es : List (List DVal)) (r : Option Out) : Prop :=
  match o with
  | some (sp, rest) => r = some (.done (.tup [.agg [.str name, (apd σ 2 (es ++ sp.map spRow)).1], .int .i64 ((s.length - rest.length : Nat) : Int), .bool true]) (apd σ 2 (es ++ sp.map spRow)).2) ∧ rest.length ≤ s.length ∧ s.drop (s.length - rest.length) = rest
  | none => ∃ (es' : List (List DVal)) (k' : Nat), r = some (.done (.tup [.agg [.str name, (apd σ 2 es').1], .int .i64 k', .bool false]) (apd σ 2 es').2)
theorem rest_here {s : Bs} {k : Nat} (hk : k ≤ s.length) : (s.drop k).length ≤ s.length ∧ s.length - (s.drop k).length = k := by
  rw [List.length_drop]; omega
theorem res64_map {s name : Bs} {σ : Sto} {o : Option (List (Bs × Bs) × Bs)} {es : List (List DVal)} {r : Option Out} (p : Bs × Bs) (h : Res64 s name σ o (es ++ [spRow p]) r) : Res64 s name σ (o.map fun x => (p :: x.1, x.2)) es r := by
  cases o with
  | none => exact h
  | some x => obtain ⟨sp, rest⟩ := x; simpa [Res64] using h
theorem l131b {n : Nat} (hn : 3000 ≤ n) (s : Bs) (hs : s.length ≤ 2000) (name : Bs) (σ : Sto) : ∀ (K k m i0 : Nat) (es : List (List DVal)), es ≠ [] → k ≤ s.length → s.length - k < K → K ≤ m → es.length ≤ k →
    Res64 s name σ (spansR K false (s.drop k)) es (iterJ 0 (L131_1 (cpJ PR n) (ciJ PR n) n (.str s)) m (st64 k i0 name (apd σ 2 es).1) (apd σ 2 es).2) := by
  intro K
  induction K with
  | zero => intro k m i0 es _ h1 h2; omega
  | succ K ih =>
    intro k m i0 es hne hk hK hm hes
    obtain ⟨m, rfl⟩ : ∃ q, m = q + 1 := ⟨m - 1, by omega⟩
    by_cases hlt : k < s.length
    · obtain ⟨c, hc⟩ := get_some hlt
      obtain ⟨a1, a2⟩ := step64b (n := n) hn s hs name σ k i0 es hne (by omega) hlt c hc
      have hdrop := drop_get hc
      by_cases hsep : c = 44
      · obtain ⟨b1, b2, b3⟩ := a2 hsep _ rfl
        rw [hdrop, spansR_cons, if_pos (by rw [hsep]; rfl)]
        by_cases hf : tw (s.drop (k + 1)) = []
        · rw [if_pos hf]
          obtain ⟨b, hb⟩ := b1 hf
          exact ⟨es, b, iterJ_done hb⟩
        · rw [if_neg hf]
          split
          · rename_i v hv
            obtain ⟨c1, c2⟩ := b3 hf v hv
            by_cases ht : tw v = []
            · rw [if_pos ht]
              obtain ⟨b, hb⟩ := c1 ht
              exact ⟨es, b, iterJ_done hb⟩
            · rw [if_neg ht]
              obtain ⟨b, i1, d1, d2, d3, d4⟩ := c2 ht
              rw [iterJ_next' d4, ← d3]
              exact res64_map _ (ih b m i1 _ (by simp) d2 (by omega) (by omega) (by simp; omega))
          · rename_i w hno
            obtain ⟨b, i1, d1, d2, d3, d4⟩ := b2 hf (fun v hv => hno v hv)
            rw [iterJ_next' d4, ← d3]
            exact res64_map _ (ih b m i1 _ (by simp) d2 (by omega) (by omega) (by simp; omega))
      · rw [hdrop, spansR_cons, if_neg (show ¬ c = sepB false from hsep), ← hdrop]
        obtain ⟨r1, r2⟩ := rest_here hk
        refine ⟨?_, r1, by rw [r2]⟩
        rw [iterJ_done (a1 hsep), r2]
        simp
    · have hnil : s.drop k = [] := List.drop_eq_nil_of_le (by omega)
      have hlt' : ¬ ((k : Int) < s.length) := by omega
      rw [hnil]
      refine ⟨?_, by simp, by simp⟩
      have : L131_1 (cpJ PR n) (ciJ PR n) n (.str s) (st64 k i0 name (apd σ 2 es).1) (apd σ 2 es).2 = some (.done (.tup [.agg [.str name, (apd σ 2 es).1], .int .i64 k, .bool true]) (apd σ 2 es).2) := by
        simp -implicitDefEqProofs [L131_1, B131_1, hlt']
      rw [iterJ_done this]
      have e : k = s.length := by omega
      simp [e]
theorem l131a {n : Nat} (hn : 3000 ≤ n) (s : Bs) (hs : s.length ≤ 2000) (name : Bs) (σ : Sto) (K k m i0 : Nat) (hk : k ≤ s.length) (hK : s.length - k < K) (hm : K ≤ m) (hk0 : 0 < k) :
    Res64 s name σ (spansR K true (s.drop k)) [] (iterJ 0 (L131_1 (cpJ PR n) (ciJ PR n) n (.str s)) m (st64 k i0 name (apd σ 2 []).1) (apd σ 2 []).2) := by
  obtain ⟨K, rfl⟩ : ∃ q, K = q + 1 := ⟨K - 1, by omega⟩
  obtain ⟨m, rfl⟩ : ∃ q, m = q + 1 := ⟨m - 1, by omega⟩
  by_cases hlt : k < s.length
  · obtain ⟨c, hc⟩ := get_some hlt
    obtain ⟨a1, a2⟩ := step64a (n := n) hn s hs name σ k i0 hlt c hc
    have hdrop := drop_get hc
    by_cases hsep : c = 58
    · obtain ⟨b1, b2, b3⟩ := a2 hsep _ rfl
      rw [hdrop, spansR_cons, if_pos (by rw [hsep]; rfl)]
      by_cases hf : tw (s.drop (k + 1)) = []
      · rw [if_pos hf]
        obtain ⟨b, hb⟩ := b1 hf
        exact ⟨[], b, iterJ_done hb⟩
      · rw [if_neg hf]
        split
        · rename_i v hv
          obtain ⟨c1, c2⟩ := b3 hf v hv
          by_cases ht : tw v = []
          · rw [if_pos ht]
            obtain ⟨b, hb⟩ := c1 ht
            exact ⟨[], b, iterJ_done hb⟩
          · rw [if_neg ht]
            obtain ⟨b, i1, d1, d2, d3, d4⟩ := c2 ht
            rw [iterJ_next' d4, ← d3]
            exact res64_map _ (l131b hn s hs name σ K b m i1 _ (by simp) d2 (by omega) (by omega) (by simp; omega))
        · rename_i w hno
          obtain ⟨b, i1, d1, d2, d3, d4⟩ := b2 hf (fun v hv => hno v hv)
          rw [iterJ_next' d4, ← d3]
          exact res64_map _ (l131b hn s hs name σ K b m i1 _ (by simp) d2 (by omega) (by omega) (by simp; omega))
    · rw [hdrop, spansR_cons, if_neg (show ¬ c = sepB true from hsep), ← hdrop]
      obtain ⟨r1, r2⟩ := rest_here hk
      refine ⟨?_, r1, by rw [r2]⟩
      rw [iterJ_done (a1 hsep), r2]
      simp
  · have hnil : s.drop k = [] := List.drop_eq_nil_of_le (by omega)
    have hlt' : ¬ ((k : Int) < s.length) := by omega
    rw [hnil]
    refine ⟨?_, by simp, by simp⟩
    have : L131_1 (cpJ PR n) (ciJ PR n) n (.str s) (st64 k i0 name (apd σ 2 []).1) (apd σ 2 []).2 = some (.done (.tup [.agg [.str name, (apd σ 2 []).1], .int .i64 k, .bool true]) (apd σ 2 []).2) := by
      simp -implicitDefEqProofs [L131_1, B131_1, hlt']
    rw [iterJ_done this]
    have e : k = s.length := by omega
    simp [e]
theorem e131 {n : Nat} (hn : 4000 ≤ n) (s : Bs) (hs : s.length ≤ 1500) (i : Nat) (hi : i ≤ s.length) :
    (∃ l rest, levelR 3000 (s.drop i) = some (l, rest) ∧ rest.length ≤ s.length ∧ s.drop (s.length - rest.length) = rest ∧ cpJ PR n 131 [.str s, .int .i64 i] = some (.tup [ltD l.1 (l.2.map spRow), .int .i64 ((s.length - rest.length : Nat) : Int), .bool true])) ∨
    (levelR 3000 (s.drop i) = none ∧ ∃ nm0 rows, ∃ k : Nat, cpJ PR n 131 [.str s, .int .i64 i] = some (.tup [ltD nm0 rows, .int .i64 k, .bool false])) := by
  obtain ⟨n, rfl⟩ : ∃ m, n = m + 1 := ⟨n - 1, by omega⟩
  obtain ⟨b, w1, w2, w3, w4, w5, w6⟩ := e150 (n := n) s (by omega) (by omega) i hi
  have hsl := slc_ij w2 w3
  rw [w4] at hsl
  rw [u131]
  unfold levelR
  by_cases hf : tw (s.drop i) = []
  · have hbe : ((b : Int) == (i : Int)) = true := by rw [w6.2 hf]; simp
    rw [if_pos hf]
    refine .inr ⟨rfl, tw (s.drop i), [], b, ?_⟩
    simp -implicitDefEqProofs [D131, w1, hsl, hbe, slD_nil]
  · have hbne : b ≠ i := fun h => hf (w6.1 h)
    have hbe : ((b : Int) == (i : Int)) = false := by simp; omega
    rw [if_neg hf, ← w5]
    have hl := l131a (n := n) (by omega) s (by omega) (tw (s.drop i)) emptySto 3000 b n i (by omega) (by omega) (by omega) (by omega)
    have e : apd emptySto 2 [] = (.nils, emptySto) := rfl
    rw [e] at hl
    have hD : D131 (cpJ PR n) (ciJ PR n) n (.str s) (.int .i64 i) emptySto = iterJ 0 (L131_1 (cpJ PR n) (ciJ PR n) n (.str s)) n (st64 b i (tw (s.drop i)) .nils) emptySto := by
      simp -implicitDefEqProofs [D131, w1, hsl, hbe]
    cases hR : spansR 3000 true (s.drop b) with
    | some x =>
      obtain ⟨sp, rest⟩ := x
      rw [hR] at hl
      obtain ⟨h1, h2, h3⟩ := hl
      refine .inl ⟨(tw (s.drop i), sp), rest, rfl, h2, h3, ?_⟩
      rw [hD, h1]
      simp -implicitDefEqProofs
    | none =>
      rw [hR] at hl
      obtain ⟨es', k', h1⟩ := hl
      refine .inr ⟨rfl, tw (s.drop i), es', k', ?_⟩
      rw [hD, h1]
      simp -implicitDefEqProofs
end Go.Proofs.YthpccimmmfonjaaGreatDoor
namespace Go.Proofs.YthpccimmmfonjaaGreatDoor
set_option linter.unusedVariables false
set_option linter.unusedSimpArgs false
set_option maxRecDepth 20000
set_option maxHeartbeats 4000000
open Go
abbrev LTp := Bs × List Sp
def readP (s : Bs) : Option (LTp × LTp) :=
  match parsedP (Lib.cut s [45]).1 with
  | none => none
  | some l => if (Lib.cut s [45]).2.2 = true then (match parsedP (Lib.cut s [45]).2.1 with | none => none | some h => some (l, h)) else some (l, ([], []))
def readR (s : Bs) : Option (LTp × LTp) :=
  match levelR 3000 s with
  | none => none
  | some (l, []) => some (l, ([], []))
  | some (l, c :: r) => if c = 45 then (match levelR 3000 r with | none => none | some (h, rest) => if rest = [] then some (l, h) else none) else none
theorem dash_part {p : Bs × Bs} (h : ValidSp p) : (45 : UInt8) ∉ partS p := by
  obtain ⟨f, t⟩ := p
  obtain ⟨h1, h2⟩ := h
  have hf : (45 : UInt8) ∉ f := not_mem_word (wordP_iff.1 h1).1 isL_sp.2.2.2
  unfold partS
  split
  · exact hf
  · rename_i ht
    rcases h2 with h2 | h2
    · exact absurd h2 ht
    · have ht' : (45 : UInt8) ∉ t := not_mem_word (wordP_iff.1 h2).1 isL_sp.2.2.2
      simp only at ht' ⊢
      simp [hf, ht']
theorem dash_sp : ∀ (sp : List Sp) (first : Bool), (∀ p ∈ sp, ValidSp p) → (45 : UInt8) ∉ renderSp first sp
  | [], first, _ => by simp [renderSp]
  | p :: r, first, h => by
    have h1 := dash_part (h p (by simp))
    have h2 := dash_sp r false fun q hq => h q (by simp [hq])
    cases first <;> simp [renderSp, sepB, h1, h2]
theorem dash_render {l : LTp} (h : ValidL l) : (45 : UInt8) ∉ renderL l := by
  rw [renderL_sp, List.mem_append]
  rintro (h1 | h1)
  · exact not_mem_word (wordP_iff.1 h.1).1 isL_sp.2.2.2 h1
  · exact dash_sp _ _ h.2 h1
theorem render_len : ∀ (sp : List Sp) (first : Bool), sp.length ≤ (renderSp first sp).length
  | [], _ => by simp
  | p :: r, first => by
    have := render_len r false
    simp only [renderSp, List.length_cons, List.length_append]; omega
theorem spans_few {l : LTp} {s rest : Bs} (h : s = renderL l ++ rest) : l.2.length ≤ s.length := by
  rw [h, renderL_sp]
  have := render_len l.2 true
  simp only [List.length_append]; omega
theorem read_eq (s : Bs) (hs : s.length ≤ 2000) : readP s = readR s := by
  have key : ∀ x, readP s = some x → readR s = some x := by
    intro x h
    unfold readP at h
    rcases cut_exists 45 s with hm | ⟨a, b, rfl, hm⟩
    · rw [cut_miss hm] at h
      simp only [Bool.false_eq_true, if_false] at h
      split at h
      · cases h
      · rename_i l hl
        simp only [Option.some.injEq] at h
        subst h
        obtain ⟨h1, h2⟩ := parsedP_sound hl
        have h1' : s = renderL l ++ [] := by rw [List.append_nil]; exact h1
        have := levelR_complete (k := 3000) (rest := []) (l := l) (.inl rfl) (by have := spans_few h1'; omega) h2
        rw [← h1'] at this
        unfold readR
        rw [this]
    · rw [cut_hit hm] at h
      simp only [if_true] at h
      split at h
      · cases h
      · rename_i l hl
        split at h
        · cases h
        · rename_i g hg
          simp only [Option.some.injEq] at h
          subst h
          obtain ⟨h1, h2⟩ := parsedP_sound hl
          obtain ⟨g1, g2⟩ := parsedP_sound hg
          have e9001 : a ++ 45 :: b = renderL l ++ 45 :: b := by rw [← h1]
          have e9002 : b = renderL g ++ [] := by rw [List.append_nil]; exact g1
          have hb : b.length ≤ 2000 := by simp at hs; omega
          have r1 := levelR_complete (k := 3000) (rest := 45 :: b) (l := l) (.inr ⟨b, rfl⟩) (by have := spans_few e9001; omega) h2
          have r2 := levelR_complete (k := 3000) (rest := []) (l := g) (.inl rfl) (by have := spans_few e9002; omega) g2
          rw [← e9001] at r1
          rw [← e9002] at r2
          unfold readR
          rw [r1]
          simp only [if_true, r2]
  have back : ∀ x, readR s = some x → readP s = some x := by
    intro x h
    unfold readR at h
    split at h
    · cases h
    · rename_i l hl
      simp only [Option.some.injEq] at h
      subst h
      obtain ⟨h1, h2⟩ := levelR_sound hl
      rw [List.append_nil] at h1
      have hm : (45 : UInt8) ∉ s := by rw [h1]; exact dash_render h2
      have := parsedP_complete h2
      rw [← h1] at this
      unfold readP
      rw [cut_miss hm]
      simp only [this, Bool.false_eq_true, if_false]
    · rename_i l c r hl
      split at h
      · rename_i hc
        subst hc
        split at h
        · cases h
        · rename_i g rest hg
          split at h
          · rename_i hr
            subst hr
            simp only [Option.some.injEq] at h
            subst h
            obtain ⟨h1, h2⟩ := levelR_sound hl
            obtain ⟨g1, g2⟩ := levelR_sound hg
            rw [List.append_nil] at g1
            have hm := dash_render h2
            have p1 := parsedP_complete h2
            have p2 := parsedP_complete g2
            rw [← g1] at p2
            unfold readP
            rw [h1, cut_hit hm]
            simp only [p1, p2, if_true]
          · cases h
      · cases h
  cases hP : readP s with
  | some x => rw [key x hP]
  | none =>
    cases hR : readR s with
    | none => rfl
    | some x => rw [back x hR] at hP; cases hP
theorem readP_few {s : Bs} (hs : s.length ≤ 1000) {l h : LTp} (e : readP s = some (l, h)) : l.2.length ≤ 1000 ∧ h.2.length ≤ 1000 := by
  unfold readP at e
  have hl := cut_len s 45
  split at e
  · cases e
  · rename_i l' h1
    have a1 := (parsedP_sound h1).1
    have b1 : l'.2.length ≤ 1000 := by
      have := spans_few (l := l') (s := (Lib.cut s [45]).1) (rest := []) (by rw [List.append_nil]; exact a1)
      omega
    split at e
    · split at e
      · cases e
      · rename_i g h2
        simp only [Option.some.injEq, Prod.mk.injEq] at e
        obtain ⟨rfl, rfl⟩ := e
        have a2 := (parsedP_sound h2).1
        have := spans_few (l := g) (s := (Lib.cut s [45]).2.1) (rest := []) (by rw [List.append_nil]; exact a2)
        exact ⟨b1, by omega⟩
    · simp only [Option.some.injEq, Prod.mk.injEq] at e
      obtain ⟨rfl, rfl⟩ := e
      exact ⟨b1, by simp⟩
abbrev rtA (l h : LTp) : DVal := .agg [.str l.1, spD .nil l.2, .str h.1, spD .nil h.2]
section
variable {n : Nat} (hn : 20200 ≤ n) (z z' : Zs) {sens cats : List (List UInt8)} (hf : Few sens cats) (s : Bs) (hs : s.length ≤ 1000)
include hn hf hs
theorem e26_none (hP : propV sens cats = true) (hr : readP s = none) : cpJ PR n 26 [.str s, strsD z sens, strsD z' cats] = some (rgE 0 0 0 0 9) := by
  obtain ⟨n, rfl⟩ : ∃ m, n = m + 1 := ⟨n - 1, by omega⟩
  have h1 := p46 (n := n) z z' hf (by omega)
  rw [hP] at h1
  have h2 := e54 (n := n) (by omega) s (by omega) 45
  have hl := cut_len s 45
  have h3 := e55 (n := n) (Lib.cut s [45]).1 (by omega) (by omega)
  have h4 := e55 (n := n) (Lib.cut s [45]).2.1 (by omega) (by omega)
  unfold readP at hr
  rw [u26]
  generalize (Lib.cut s [45]).1 = a at h2 h3 hr
  generalize (Lib.cut s [45]).2.1 = b at h2 h4 hr
  generalize (Lib.cut s [45]).2.2 = q at h2 hr
  rcases h3 with ⟨l, p1, p2⟩ | ⟨p1, nm0, rows, p2⟩
  · rw [p1] at hr
    simp only at hr
    cases q with
    | false => simp at hr
    | true =>
      simp only [if_true] at hr
      rcases h4 with ⟨g, g1, g2⟩ | ⟨g1, nm1, rows1, g2⟩
      · rw [g1] at hr; simp at hr
      · simp -implicitDefEqProofs [D26, h1, h2, p2, g2]
  · simp -implicitDefEqProofs [D26, h1, h2, p2]
theorem e26_some (hP : propV sens cats = true) {l h : LTp} (hr : readP s = some (l, h)) {t t' : Int} {d d' : Nat} {f : Int} (h31 : cpJ PR (n - 1) 56 [rtA l h, strsD z sens, strsD z' cats] = some (rgE t d t' d' f)) :
    cpJ PR n 26 [.str s, strsD z sens, strsD z' cats] = some (rgE t d t' d' f) := by
  obtain ⟨n, rfl⟩ : ∃ m, n = m + 1 := ⟨n - 1, by omega⟩
  have h1 := p46 (n := n) z z' hf (by omega)
  rw [hP] at h1
  have h2 := e54 (n := n) (by omega) s (by omega) 45
  have hl := cut_len s 45
  have h3 := e55 (n := n) (Lib.cut s [45]).1 (by omega) (by omega)
  have h4 := e55 (n := n) (Lib.cut s [45]).2.1 (by omega) (by omega)
  unfold readP at hr
  rw [u26]
  simp only [Nat.add_sub_cancel] at h31
  generalize (Lib.cut s [45]).1 = a at h2 h3 hr
  generalize (Lib.cut s [45]).2.1 = b at h2 h4 hr
  generalize (Lib.cut s [45]).2.2 = q at h2 hr
  rcases h3 with ⟨l', p1, p2⟩ | ⟨p1, nm0, rows, p2⟩
  · rw [p1] at hr
    simp only at hr
    change _ = some (DVal.tup [.agg [.str l'.1, spD .nil l'.2], .bool true]) at p2
    cases q with
    | false =>
      simp only [Bool.false_eq_true, if_false, Option.some.injEq, Prod.mk.injEq] at hr
      obtain ⟨rfl, rfl⟩ := hr
      simp only [rtA, spD, List.map_nil, slD_nil] at h31
      simp -implicitDefEqProofs [D26, L26_0, J26_0, h1, h2, p2, h31]
    | true =>
      simp only [if_true] at hr
      rcases h4 with ⟨g, g1, g2⟩ | ⟨g1, nm1, rows1, g2⟩
      · rw [g1] at hr
        simp only [Option.some.injEq, Prod.mk.injEq] at hr
        obtain ⟨rfl, rfl⟩ := hr
        change _ = some (DVal.tup [.agg [.str g.1, spD .nil g.2], .bool true]) at g2
        simp only [rtA] at h31
        simp -implicitDefEqProofs [D26, L26_0, J26_0, h1, h2, p2, g2, h31]
      · rw [g1] at hr; simp at hr
  · rw [p1] at hr; simp at hr
end
theorem e98 {n : Nat} (hn : 5000 ≤ n) (s : Bs) (hs : s.length ≤ 1000) :
    (∃ l h, readR s = some (l, h) ∧ cpJ PR n 98 [.str s] = some (.tup [rtA l h, .bool true])) ∨
    (readR s = none ∧ ∃ n1 r1 n2 r2, cpJ PR n 98 [.str s] = some (.tup [rtD n1 r1 n2 r2, .bool false])) := by
  obtain ⟨n, rfl⟩ : ∃ m, n = m + 1 := ⟨n - 1, by omega⟩
  have h0 := e131 (n := n) (by omega) s (by omega) 0 (Nat.zero_le _)
  simp only [Int.natCast_zero, List.drop_zero] at h0
  rw [u98]
  unfold readR
  rcases h0 with ⟨l, rest, r1, r2, r3, r4⟩ | ⟨r1, nm0, rows, k, r4⟩
  · rw [r1]
    change _ = some (DVal.tup [.agg [.str l.1, spD .nil l.2], .int .i64 ((s.length - rest.length : Nat) : Int), .bool true]) at r4
    obtain ⟨i, hi⟩ : ∃ i, i = s.length - rest.length := ⟨_, rfl⟩
    rw [← hi] at r3 r4
    cases rest with
    | nil =>
      have e9001 : ((i : Int) == (s.length : Int)) = true := by simp at hi; simp [hi]
      refine .inl ⟨l, ([], []), rfl, ?_⟩
      simp only [rtA, spD, List.map_nil, slD_nil]
      simp only [spD] at r4
      simp -implicitDefEqProofs [D98, r4, e9001]
    | cons c r =>
      have hlen : r.length + 1 ≤ s.length := by simpa using r2
      have hi' : i = s.length - (r.length + 1) := by simpa using hi
      have e9001 : ((i : Int) == (s.length : Int)) = false := by simp; omega
      have hc : s[i]? = some c := by
        have : (s.drop i)[0]? = some c := by rw [r3]; rfl
        simpa using this
      have hd : s.drop (i + 1) = r := by
        have := drop_get hc
        rw [r3] at this
        exact (List.cons.inj this).2.symm
      have dq := u8_eq c 45
      have tq : (((45 : UInt8).toNat : Nat) : Int) = 45 := by decide
      rw [tq] at dq
      by_cases h45 : c = 45
      · subst h45
        obtain ⟨i1, hi1, hw⟩ : ∃ k1 : Nat, k1 = i + 1 ∧ IntKind.i64.wrap ((i : Int) + 1) = (k1 : Int) := ⟨i + 1, rfl, by rw [wrap_i64 (by omega) (by omega)]; rfl⟩
        have h1 := e131 (n := n) (by omega) s (by omega) i1 (by omega)
        rw [hi1, hd, ← hi1] at h1
        simp only [if_true]
        rcases h1 with ⟨g, rest2, t1, t2, t3, t4⟩ | ⟨t1, nm1, rows1, k1, t4⟩
        · rw [t1]
          simp only
          change _ = some (DVal.tup [.agg [.str g.1, spD .nil g.2], .int .i64 ((s.length - rest2.length : Nat) : Int), .bool true]) at t4
          by_cases hr2 : rest2 = []
          · subst hr2
            have e9002 : ((s.length - ([] : Bs).length : Nat) : Int) = s.length := by simp
            rw [e9002] at t4
            refine .inl ⟨l, g, by simp, ?_⟩
            simp only [rtA]
            simp only [spD] at r4 t4 ⊢
            simp -implicitDefEqProofs [D98, r4, e9001, hc, hw, t4]
          · obtain ⟨j, hj⟩ : ∃ j, j = s.length - rest2.length := ⟨_, rfl⟩
            rw [← hj] at t4
            have hpos : 0 < rest2.length := List.length_pos_iff.2 hr2
            have e9002 : ((j : Int) == (s.length : Int)) = false := by simp; omega
            refine .inr ⟨by simp [hr2], l.1, l.2.map spRow, g.1, g.2.map spRow, ?_⟩
            change _ = some (DVal.tup [.agg [.str l.1, spD .nil l.2, .str g.1, spD .nil g.2], .bool false])
            simp only [spD] at r4 t4 ⊢
            simp -implicitDefEqProofs [D98, r4, e9001, hc, hw, t4, e9002]
        · rw [t1]
          refine .inr ⟨rfl, l.1, l.2.map spRow, nm1, rows1, ?_⟩
          change _ = some (DVal.tup [.agg [.str l.1, spD .nil l.2, .str nm1, slD .nil 2 rows1], .bool false])
          simp only [spD] at r4 ⊢
          simp -implicitDefEqProofs [D98, r4, e9001, hc, hw, t4]
      · have dq' : ((c.toNat : Int) == 45) = false := by rw [dq]; simp [h45]
        have dq2 : ¬ ((c.toNat : Int) = 45) := by simpa using dq'
        refine .inr ⟨by simp [h45], [], [], [], [], ?_⟩
        simp only [spD] at r4
        simp -implicitDefEqProofs [D98, r4, e9001, hc, dq', dq2, slD_nil]
  · rw [r1]
    refine .inr ⟨rfl, nm0, rows, [], [], ?_⟩
    simp -implicitDefEqProofs [D98, r4, slD_nil]
section
variable {n : Nat} (hn : 20200 ≤ n) (z z' : Zs) {sens cats : List (List UInt8)} (hf : Few sens cats) (s : Bs) (hs : s.length ≤ 1000)
include hn hf hs
theorem e27_none (hP : propV sens cats = true) (hr : readR s = none) : cpJ PR n 52 [.str s, strsD z sens, strsD z' cats] = some (rgE 0 0 0 0 9) := by
  obtain ⟨n, rfl⟩ : ∃ m, n = m + 1 := ⟨n - 1, by omega⟩
  have h1 := p49 (n := n) z z' hf (by omega)
  rw [hP] at h1
  rw [u52]
  rcases e98 (n := n) (by omega) s hs with ⟨l, h, r1, r2⟩ | ⟨r1, n1, r1', n2, r2', r2⟩
  · rw [hr] at r1; cases r1
  · simp -implicitDefEqProofs [D52, h1, r2]
theorem e27_some (hP : propV sens cats = true) {l h : LTp} (hr : readR s = some (l, h)) {t t' : Int} {d d' : Nat} {f : Int} (h32 : cpJ PR (n - 1) 99 [rtA l h, strsD z sens, strsD z' cats] = some (rgE t d t' d' f)) :
    cpJ PR n 52 [.str s, strsD z sens, strsD z' cats] = some (rgE t d t' d' f) := by
  obtain ⟨n, rfl⟩ : ∃ m, n = m + 1 := ⟨n - 1, by omega⟩
  have h1 := p49 (n := n) z z' hf (by omega)
  rw [hP] at h1
  rw [u52]
  simp only [Nat.add_sub_cancel] at h32
  rcases e98 (n := n) (by omega) s hs with ⟨l', h', r1, r2⟩ | ⟨r1, n1, r1', n2, r2', r2⟩
  · rw [hr] at r1
    simp only [Option.some.injEq, Prod.mk.injEq] at r1
    obtain ⟨rfl, rfl⟩ := r1
    simp only [rtA] at r2 h32
    simp -implicitDefEqProofs [D52, h1, r2, h32]
  · rw [hr] at r1; cases r1
end
theorem bitsR_bits : ∀ {k a c j : Nat}, (bitsR c a k).testBit j = true → c.testBit j = true ∨ (a ≤ j ∧ j < a + k)
  | 0, a, c, j, h => .inl h
  | k + 1, a, c, j, h => by
    rcases bitsR_bits (k := k) (a := a + 1) (c := c ||| 2 ^ a) h with h | h
    · rw [Nat.testBit_or, Bool.or_eq_true] at h
      rcases h with h | h
      · exact .inl h
      · rw [Nat.testBit_two_pow] at h
        simp only [decide_eq_true_eq] at h
        exact .inr (by omega)
    · exact .inr (by omega)
theorem lvlAcc_bits (cats : List (List UInt8)) : ∀ (sp : List Sp) (c : Nat), (∀ j, c.testBit j = true → j < cats.length) → ∀ j, (lvlAcc cats sp c).1.testBit j = true → j < cats.length
  | [], c, h => h
  | p :: r, c, h => by
    rw [lvlAcc_cons]
    have hA := idxAt_cases p.1 cats 0
    have hB := idxAt_cases p.2 cats 0
    generalize idxAt p.1 cats 0 = A at hA ⊢
    have hb : (if p.2 ≠ [] then idxAt p.2 cats 0 else A) = -1 ∨ ∃ q : Nat, (if p.2 ≠ [] then idxAt p.2 cats 0 else A) = q ∧ q < cats.length := by
      split
      · rcases hB with h | ⟨q, h, hq, -⟩
        · exact .inl h
        · exact .inr ⟨q, by simpa using h, by omega⟩
      · rcases hA with h | ⟨q, h, hq, -⟩
        · exact .inl h
        · exact .inr ⟨q, by simpa using h, by omega⟩
    generalize (if p.2 ≠ [] then idxAt p.2 cats 0 else A) = b at hb ⊢
    split
    · intro j hj; simp at hj
    · split
      · intro j hj; simp at hj
      · refine lvlAcc_bits cats r _ fun j hj => ?_
        rcases bitsR_bits hj with hj | hj
        · exact h j hj
        · rcases hb with h | ⟨q, h, hq⟩ <;> omega
theorem levelV_ok {sens cats : List (List UInt8)} {name : List UInt8} {sp : List Sp} {s : Int} {c : Nat} (hc : c < 18446744073709551616) (h : levelV sens cats name sp = lvE s c 0) : checkV s c sens.length cats.length = true := by
  unfold levelV at h
  split at h
  · rename_i hP
    split at h
    · simp at h
    · rename_i hs
      unfold accD at h
      have hA := idxAt_cases name sens 0
      split at h
      · simp only [DVal.tup.injEq, List.cons.injEq, DVal.agg.injEq, DVal.int.injEq, true_and, and_true] at h
        obtain ⟨h1, h2⟩ := h
        have hcc : (lvlAcc cats sp 0).1 = c := by omega
        rw [← check_eq hc, decide_eq_true_eq]
        refine ⟨fun j _ _ hj => ?_, ?_, ?_⟩
        · have := lvlAcc_bits cats sp 0 (fun j hj => by simp at hj) j (by rw [hcc]; exact hj)
          omega
        · rcases hA with h | ⟨q, h, hq, -⟩ <;> omega
        · rcases hA with h | ⟨q, h, hq, -⟩ <;> omega
      · simp only [DVal.tup.injEq, List.cons.injEq, DVal.agg.injEq, DVal.int.injEq, true_and, and_true] at h
        rename_i hne
        exact absurd h.2 hne
  · simp at h
theorem rangeRV_ok {sens cats : List (List UInt8)} {n1 n2 : List UInt8} {sp1 sp2 : List Sp} {s s' : Int} {c c' : Nat} {e e' : Int} (hc : c < 18446744073709551616) (hc' : c' < 18446744073709551616) (l9001 : levelV sens cats n1 sp1 = lvE s c e) (l9002 : levelV sens cats n2 sp2 = lvE s' c' e')
    {no : Prop} [Decidable no] {t t' : Int} {d d' : Nat} (h : rangeRV s c e s' c' e' no = rgE t d t' d' 0) : rangeV t d t' d' sens.length cats.length = true ∧ Rok d d' := by
  unfold rangeRV at h
  split at h
  · rename_i he
    simp only [DVal.tup.injEq, List.cons.injEq, DVal.agg.injEq, DVal.int.injEq, true_and, and_true] at h
    exact absurd h.2 he
  · rename_i he
    have he : e = 0 := by simpa using he
    subst he
    have k1 := levelV_ok hc l9001
    split at h
    · simp only [DVal.tup.injEq, List.cons.injEq, DVal.agg.injEq, DVal.int.injEq, true_and, and_true] at h
      obtain ⟨rfl, h2, rfl, h3⟩ := h
      obtain rfl : c = d := by omega
      obtain rfl : c = d' := by omega
      exact ⟨by simp [rangeV, k1, dom_refl], hc, hc⟩
    · split at h
      · rename_i he'
        simp only [DVal.tup.injEq, List.cons.injEq, DVal.agg.injEq, DVal.int.injEq, true_and, and_true] at h
        exact absurd h.2 he'
      · rename_i he'
        have he' : e' = 0 := by simpa using he'
        subst he'
        have k2 := levelV_ok hc' l9002
        split at h
        · rename_i hd
          simp only [DVal.tup.injEq, List.cons.injEq, DVal.agg.injEq, DVal.int.injEq, true_and, and_true] at h
          obtain ⟨rfl, h2, rfl, h3⟩ := h
          obtain rfl : c = d := by omega
          obtain rfl : c' = d' := by omega
          exact ⟨by simp [rangeV, k1, k2, hd], hc, hc'⟩
        · simp at h
end Go.Proofs.YthpccimmmfonjaaGreatDoor
namespace Go.Proofs.YthpccimmmfonjaaGreatDoor
set_option linter.unusedVariables false
set_option linter.unusedSimpArgs false
set_option maxRecDepth 20000
set_option maxHeartbeats 4000000
open Go
theorem e104g {n : Nat} (u : Bs) (hu : u.length ≤ 20000) (hn : 20100 ≤ n) : cpJ PR n 104 [.str u] =
    some (.tup [.agg [.str (Lib.cut u [46]).1, .str (Lib.cut u [46]).2.1], .bool (wordV (Lib.cut u [46]).1 && (!(Lib.cut u [46]).2.2 || wordV (Lib.cut u [46]).2.1))]) := by
  obtain ⟨n, rfl⟩ : ∃ m, n = m + 1 := ⟨n - 1, by omega⟩
  have h1 := e54 (n := n) (by omega) u (by omega) 46
  have hl := cut_len u 46
  have h2 := e102 (n := n) (Lib.cut u [46]).1 (by omega) (by omega)
  have h3 := e102 (n := n) (Lib.cut u [46]).2.1 (by omega) (by omega)
  rw [u104]
  generalize (Lib.cut u [46]).1 = a at h1 h2 ⊢
  generalize (Lib.cut u [46]).2.1 = b at h1 h3 ⊢
  generalize (Lib.cut u [46]).2.2 = q at h1 ⊢
  cases hq : q <;> cases ha : wordV a <;> cases hb : wordV b <;> rw [hq] at h1 <;> rw [ha] at h2 <;> rw [hb] at h3 <;> simp -implicitDefEqProofs [D104, h1, h2, h3]
theorem l55g {n : Nat} (hn : 21000 ≤ n) (name : Bs) (ps : List Bs) (hps : ps.length ≤ 20100) (hpl : ∀ p ∈ ps, p.length ≤ 20000) (σ : Sto) : ∀ (k j m : Nat) (es : List (List DVal)) (u : DVal), j + k = ps.length → k < m → es.length ≤ j →
    (∀ sp, mapO spanP (ps.drop j) = some sp → iterJ 0 (L55_0 (cpJ PR n) (ciJ PR n) n (.slice false 0 1 (ps.map fun x => [.str x])) (.int .i64 ps.length)) m [.int .i64 j, u, .agg [.str name, (apd σ 2 es).1], .agg [.str [], .nils]] (apd σ 2 es).2 =
      some (.done (.tup [.agg [.str name, (apd σ 2 (es ++ sp.map spRow)).1], .bool true]) (apd σ 2 (es ++ sp.map spRow)).2)) ∧
    (mapO spanP (ps.drop j) = none → ∃ es', iterJ 0 (L55_0 (cpJ PR n) (ciJ PR n) n (.slice false 0 1 (ps.map fun x => [.str x])) (.int .i64 ps.length)) m [.int .i64 j, u, .agg [.str name, (apd σ 2 es).1], .agg [.str [], .nils]] (apd σ 2 es).2 =
      some (.done (.tup [.agg [.str name, (apd σ 2 es').1], .bool false]) (apd σ 2 es').2)) := by
  intro k
  induction k with
  | zero =>
    intro j m es u hj hm hes
    obtain ⟨m, rfl⟩ : ∃ q, m = q + 1 := ⟨m - 1, by omega⟩
    have hj' : ¬ ((j : Int) < ps.length) := by omega
    rw [List.drop_eq_nil_of_le (by omega)]
    refine ⟨fun sp h => ?_, fun h => by simp [mapO] at h⟩
    simp only [mapO, Option.some.injEq] at h
    subst h
    refine iterJ_done ?_
    simp -implicitDefEqProofs [L55_0, B55_0, hj']
  | succ k ih =>
    intro j m es u hj hm hes
    obtain ⟨m, rfl⟩ : ∃ q, m = q + 1 := ⟨m - 1, by omega⟩
    have hj' : ((j : Int) < ps.length) := by omega
    obtain ⟨p, hp⟩ := get_some (by omega : j < ps.length)
    have hw : IntKind.i64.wrap ((j : Int) + 1) = (j : Int) + 1 := wrap_i64 (by omega) (by omega)
    have h1 := e104g (n := n) p (hpl p (List.mem_of_getElem? hp)) (by omega)
    have h2 := spanP_eq p
    rw [drop_get hp]
    generalize (Lib.cut p [46]).1 = a at h1 h2
    generalize (Lib.cut p [46]).2.1 = b at h1 h2
    generalize (wordV a && (!(Lib.cut p [46]).2.2 || wordV b)) = ok at h1 h2
    have ha := app_apd (σ := σ) (sz := 2) (own := 1) (es := es) (r := spRow (a, b)) (by omega)
    cases ok with
    | true =>
      rw [if_pos rfl] at h2
      have step : L55_0 (cpJ PR n) (ciJ PR n) n (.slice false 0 1 (ps.map fun x => [.str x])) (.int .i64 ps.length) [.int .i64 j, u, .agg [.str name, (apd σ 2 es).1], .agg [.str [], .nils]] (apd σ 2 es).2 =
          some (.next 0 [.int .i64 ((j + 1 : Nat) : Int), u, .agg [.str name, (apd σ 2 (es ++ [spRow (a, b)])).1], .agg [.str [], .nils]] (apd σ 2 (es ++ [spRow (a, b)])).2) := by
        simp only [spRow] at ha ⊢
        simp -implicitDefEqProofs [L55_0, B55_0, hj', hp, h1, ha, hw]
      obtain ⟨i1, i2⟩ := ih (j + 1) m (es ++ [spRow (a, b)]) u (by omega) (by omega) (by simp; omega)
      simp only [mapO, h2]
      rw [iterJ_next' step]
      refine ⟨fun sp h => ?_, fun h => ?_⟩
      · split at h
        · rename_i y ys e9001 e9002
          simp only [Option.some.injEq] at h e9001
          subst h e9001
          rw [i1 _ e9002]
          simp
        · cases h
      · split at h
        · cases h
        · rename_i hno
          refine i2 ?_
          cases hd : mapO spanP (ps.drop (j + 1)) with
          | none => rfl
          | some ys => exact absurd hd (hno _ ys rfl)
    | false =>
      rw [if_neg (by decide)] at h2
      have hm : mapO spanP (p :: ps.drop (j + 1)) = none := by simp only [mapO, h2]
      rw [hm]
      refine ⟨fun sp h => (by cases h), fun _ => ⟨es, iterJ_done ?_⟩⟩
      simp -implicitDefEqProofs [L55_0, B55_0, hj', hp, h1]
theorem e55g {n : Nat} (u : Bs) (hu : u.length ≤ 20000) (hn : 24000 ≤ n) :
    (∃ l, parsedP u = some l ∧ cpJ PR n 55 [.str u] = some (.tup [ltD l.1 (l.2.map spRow), .bool true])) ∨
    (parsedP u = none ∧ ∃ nm0 rows, cpJ PR n 55 [.str u] = some (.tup [ltD nm0 rows, .bool false])) := by
  obtain ⟨n, rfl⟩ : ∃ m, n = m + 1 := ⟨n - 1, by omega⟩
  have h1 := e54 (n := n) (by omega) u (by omega) 58
  have hl := cut_len u 58
  have h2 := e102 (n := n) (Lib.cut u [58]).1 (by omega) (by omega)
  have h3 := e103 (n := n) (by omega) (Lib.cut u [58]).2.1 (by omega)
  have hs := splitN_len (Lib.cut u [58]).2.1
  rw [u55]
  unfold parsedP
  simp only
  generalize (Lib.cut u [58]).1 = a at h1 h2 hl ⊢
  generalize (Lib.cut u [58]).2.1 = b at h1 h3 hl hs ⊢
  generalize (Lib.cut u [58]).2.2 = q at h1 ⊢
  cases ha : wordV a with
  | false =>
    rw [ha] at h2
    refine .inr ⟨by simp, a, [], ?_⟩
    simp -implicitDefEqProofs [D55, h1, h2, slD_nil]
  | true =>
    rw [ha] at h2
    cases q with
    | false =>
      refine .inl ⟨(a, []), by simp, ?_⟩
      simp -implicitDefEqProofs [D55, h1, h2, slD_nil]
    | true =>
      generalize Lib.splitN b [44] (Lib.count b [44] + 1) = ps at h3 hs ⊢
      obtain ⟨i1, i2⟩ := l55g (n := n) (by omega) a ps (by omega) (fun p hp => by have := hs.2 p hp; omega) emptySto ps.length 0 n [] (.bool false) (by omega) (by omega) (by simp)
      simp only [List.drop_zero, Int.natCast_zero, List.nil_append] at i1 i2
      have e : apd emptySto 2 [] = (.nils, emptySto) := rfl
      rw [e] at i1 i2
      cases hm : mapO spanP ps with
      | some sp =>
        have := i1 sp hm
        refine .inl ⟨(a, sp), by simp, ?_⟩
        simp -implicitDefEqProofs [D55, h1, h2, h3, this]
      | none =>
        obtain ⟨es', this⟩ := i2 hm
        refine .inr ⟨by simp, a, es', ?_⟩
        simp -implicitDefEqProofs [D55, h1, h2, h3, this]
theorem e26g {n : Nat} (hn : 24010 ≤ n) (z z' : Zs) {sens cats : List (List UInt8)} (hf : Few sens cats) (s : Bs) (hs : s.length ≤ 100000) (hs1 : (Lib.cut s [45]).1.length ≤ 20000) (hs2 : (Lib.cut s [45]).2.1.length ≤ 20000) (hP : propV sens cats = true) {l h : LTp} (hr : readP s = some (l, h)) {t t' : Int} {d d' : Nat} {f : Int} (h31 : cpJ PR (n - 1) 56 [rtA l h, strsD z sens, strsD z' cats] = some (rgE t d t' d' f)) :
    cpJ PR n 26 [.str s, strsD z sens, strsD z' cats] = some (rgE t d t' d' f) := by
  obtain ⟨n, rfl⟩ : ∃ m, n = m + 1 := ⟨n - 1, by omega⟩
  have h1 := p46 (n := n) z z' hf (by omega)
  rw [hP] at h1
  have h2 := e54 (n := n) (by omega) s (by omega) 45
  have h3 := e55g (n := n) (Lib.cut s [45]).1 (by omega) (by omega)
  have h4 := e55g (n := n) (Lib.cut s [45]).2.1 (by omega) (by omega)
  unfold readP at hr
  rw [u26]
  simp only [Nat.add_sub_cancel] at h31
  generalize (Lib.cut s [45]).1 = a at h2 h3 hr
  generalize (Lib.cut s [45]).2.1 = b at h2 h4 hr
  generalize (Lib.cut s [45]).2.2 = q at h2 hr
  rcases h3 with ⟨l', p1, p2⟩ | ⟨p1, nm0, rows, p2⟩
  · rw [p1] at hr
    simp only at hr
    change _ = some (DVal.tup [.agg [.str l'.1, spD .nil l'.2], .bool true]) at p2
    cases q with
    | false =>
      simp only [Bool.false_eq_true, if_false, Option.some.injEq, Prod.mk.injEq] at hr
      obtain ⟨rfl, rfl⟩ := hr
      simp only [rtA, spD, List.map_nil, slD_nil] at h31
      simp -implicitDefEqProofs [D26, L26_0, J26_0, h1, h2, p2, h31]
    | true =>
      simp only [if_true] at hr
      rcases h4 with ⟨g, g1, g2⟩ | ⟨g1, nm1, rows1, g2⟩
      · rw [g1] at hr
        simp only [Option.some.injEq, Prod.mk.injEq] at hr
        obtain ⟨rfl, rfl⟩ := hr
        change _ = some (DVal.tup [.agg [.str g.1, spD .nil g.2], .bool true]) at g2
        simp only [rtA] at h31
        simp -implicitDefEqProofs [D26, L26_0, J26_0, h1, h2, p2, g2, h31]
      · rw [g1] at hr; simp at hr
  · rw [p1] at hr; simp at hr
def spanOf (cats : List (List UInt8)) (p : Nat × Nat) : Sp := (nm cats p.1, if p.1 < p.2 then nm cats p.2 else [])
def lvlL (sens cats : List (List UInt8)) (s c : Nat) : LTp := (nm sens s, (runs c).map (spanOf cats))
theorem idx_nm {l : List (List UInt8)} (hd : l.Nodup) {i : Nat} (hi : i < l.length) : idxAt (nm l i) l 0 = i := by
  have h0 := (idxAt_ge (nm l i) l 0).2 (nm_mem hi)
  rcases idxAt_cases (nm l i) l 0 with h | ⟨j, h1, h2, h3⟩
  · omega
  · have hij : i = j := (List.getElem?_inj hi hd).1 (by rw [h3, get_nm hi])
    omega
theorem bitsR_test : ∀ {k a c j : Nat}, (bitsR c a k).testBit j = (c.testBit j || (decide (a ≤ j) && decide (j < a + k)))
  | 0, a, c, j => by
    have : (decide (a ≤ j) && decide (j < a + 0)) = false := by simp <;> omega
    rw [this]; simp [bitsR]
  | k + 1, a, c, j => by
    rw [bitsR, bitsR_test (k := k), Nat.testBit_or, Nat.testBit_two_pow, Bool.or_assoc]
    congr 1
    rw [Bool.eq_iff_iff]
    simp only [Bool.or_eq_true, Bool.and_eq_true, decide_eq_true_eq]
    omega
theorem endR_all {c : Nat} : ∀ {k t j : Nat}, c.testBit t = true → t ≤ j → j ≤ endR c k t → c.testBit j = true
  | 0, t, j, h, h1, h2 => by
    have : j = t := by simp only [endR] at h2; omega
    rw [this]; exact h
  | k + 1, t, j, h, h1, h2 => by
    rw [endR] at h2
    by_cases e : j = t
    · rw [e]; exact h
    · split at h2
      · rename_i hc
        exact endR_all (k := k) hc.2 (by omega) h2
      · omega
theorem lvl_back {cats : List (List UInt8)} (hd : cats.Nodup) (hne : ∀ s ∈ cats, s ≠ []) {c : Nat} (hc : c < 18446744073709551616) (hv : ∀ j, c.testBit j = true → j < cats.length) :
    ∀ (k i acc : Nat), 64 ≤ i + k → ∃ r, lvlAcc cats ((runsR c k i).map (spanOf cats)) acc = (r, 0) ∧ ∀ j, r.testBit j = (acc.testBit j || (decide (i ≤ j) && c.testBit j)) := by
  have hhigh : ∀ j, 64 ≤ j → c.testBit j = false := fun j hj => Nat.testBit_lt_two_pow (Nat.lt_of_lt_of_le hc (Nat.pow_le_pow_right (n := 2) (by decide) hj))
  have hnone : ∀ i acc : Nat, 64 ≤ i → ∃ r, lvlAcc cats [] acc = (r, 0) ∧ ∀ j, r.testBit j = (acc.testBit j || (decide (i ≤ j) && c.testBit j)) := fun i acc hi => by
    refine ⟨acc, rfl, fun j => ?_⟩
    by_cases hj : i ≤ j
    · rw [hhigh j (by omega)]; simp
    · simp [hj]
  intro k
  induction k with
  | zero =>
    intro i acc hik
    exact hnone i acc (by omega)
  | succ k ih =>
    intro i acc hik
    rw [runsR]
    by_cases hi : i < 64
    · rw [if_pos hi]
      by_cases hb : c.testBit i = true
      · rw [if_pos hb]
        have hle := endR_le (c := c) (k := 64) (t := i) (by omega)
        have hbit := endR_bit (c := c) (k := 64) (t := i) hb
        have hall := @endR_all c 64 i
        generalize endR c 64 i = e at hle hbit hall ⊢
        have h1 := hv _ hb
        have h2 := hv _ hbit
        rw [List.map_cons, lvlAcc_cons]
        have x1 : idxAt (spanOf cats (i, e)).1 cats 0 = i := idx_nm hd h1
        have x2 : (if (spanOf cats (i, e)).2 ≠ [] then idxAt (spanOf cats (i, e)).2 cats 0 else idxAt (spanOf cats (i, e)).1 cats 0) = e := by
          by_cases hlt : i < e
          · have en : (spanOf cats (i, e)).2 = nm cats e := by simp [spanOf, hlt]
            rw [en, if_pos (hne _ (nm_mem h2))]
            exact idx_nm hd h2
          · have en : (spanOf cats (i, e)).2 = [] := by simp [spanOf, hlt]
            rw [en, if_neg (by simp), x1]
            omega
        rw [x2, x1, if_neg (by omega), if_neg (by omega)]
        obtain ⟨r, r1, r2⟩ := ih (e + 1) (bitsR acc (i : Int).toNat ((e : Int).toNat + 1 - (i : Int).toNat)) (by omega)
        refine ⟨r, r1, fun j => ?_⟩
        rw [r2, bitsR_test, Bool.or_assoc]
        congr 1
        simp only [Int.toNat_natCast]
        by_cases ha : i ≤ j ∧ j ≤ e
        · have := hall hb ha.1 ha.2
          rw [this, Bool.eq_iff_iff]
          simp only [Bool.or_eq_true, Bool.and_eq_true, decide_eq_true_eq, eq_self, and_true]
          omega
        · cases c.testBit j with
          | true =>
            rw [Bool.eq_iff_iff]
            simp only [Bool.or_eq_true, Bool.and_eq_true, decide_eq_true_eq, eq_self, and_true]
            omega
          | false =>
            rw [Bool.eq_iff_iff]
            simp only [Bool.or_eq_true, Bool.and_eq_true, decide_eq_true_eq, Bool.false_eq_true, and_false, or_false, iff_false]
            omega
      · rw [if_neg hb]
        obtain ⟨r, r1, r2⟩ := ih (i + 1) acc (by omega)
        refine ⟨r, r1, fun j => ?_⟩
        rw [r2]
        congr 1
        by_cases e : j = i
        · subst e
          have hb' : c.testBit j = false := by simpa using hb
          simp [hb']
        · rw [Bool.eq_iff_iff]
          simp only [Bool.and_eq_true, decide_eq_true_eq]
          constructor
          · rintro ⟨q1, q2⟩; exact ⟨by omega, q2⟩
          · rintro ⟨q1, q2⟩; exact ⟨by omega, q2⟩
    · rw [if_neg hi]
      exact hnone i acc (by omega)
theorem prop_names {sens cats : List (List UInt8)} (hP : propV sens cats = true) : ((∀ s ∈ sens, s ≠ [] ∧ s.length ≤ 32 ∧ s.all isL = true) ∧ sens.Nodup) ∧ ((∀ s ∈ cats, s ≠ [] ∧ s.length ≤ 32 ∧ s.all isL = true) ∧ cats.Nodup) := by
  simp only [propV, Bool.and_eq_true] at hP
  exact ⟨properB_name hP.1, properB_name hP.2⟩
section
variable {sens cats : List (List UInt8)} (hP : propV sens cats = true) {i c : Nat} (hi : i < sens.length) (hc : c < 18446744073709551616) (hv : ∀ j, c.testBit j = true → j < cats.length)
include hP hi hv
include hc in
theorem levelV_back : levelV sens cats (lvlL sens cats i c).1 (lvlL sens cats i c).2 = lvE i c 0 := by
  obtain ⟨⟨a1, a2⟩, b1, b2⟩ := prop_names hP
  obtain ⟨r, r1, r2⟩ := lvl_back b2 (fun s hs => (b1 s hs).1) hc hv 64 0 0 (by omega)
  have hr : r = c := Nat.eq_of_testBit_eq fun j => by rw [r2]; simp
  subst hr
  have e9001 : idxAt (nm sens i) sens 0 = i := idx_nm a2 hi
  have e9002 : lvlAcc cats ((runs r).map (spanOf cats)) 0 = (r, 0) := r1
  unfold levelV lvlL
  rw [if_pos hP]
  simp only
  rw [e9001, if_neg (by omega), e9002]
  simp [accD]
theorem validL_back : ValidL (lvlL sens cats i c) := by
  obtain ⟨⟨a1, a2⟩, b1, b2⟩ := prop_names hP
  have hw : ∀ j, j < cats.length → wordP (nm cats j) := fun j hj => wordP_iff.2 ⟨(b1 _ (nm_mem hj)).2.2, (b1 _ (nm_mem hj)).1⟩
  refine ⟨wordP_iff.2 ⟨(a1 _ (nm_mem hi)).2.2, (a1 _ (nm_mem hi)).1⟩, fun p hp => ?_⟩
  simp only [lvlL, List.mem_map] at hp
  obtain ⟨q, hq, rfl⟩ := hp
  have hb := runsR_bits hq
  refine ⟨hw _ (hv _ hb.1), ?_⟩
  by_cases hlt : q.1 < q.2
  · right
    have : (spanOf cats q).2 = nm cats q.2 := by simp [spanOf, hlt]
    rw [this]; exact hw _ (hv _ hb.2.1)
  · left; simp [spanOf, hlt]
omit hi in
theorem render_back : renderL (lvlL sens cats i c) = lvT sens cats i c := by
  obtain ⟨⟨a1, a2⟩, b1, b2⟩ := prop_names hP
  unfold renderL lvlL lvT
  simp only [List.map_map]
  congr 1
  refine List.map_congr_left fun p hp => ?_
  have hb := runsR_bits hp
  have hne := (b1 _ (nm_mem (hv _ hb.2.1))).1
  simp only [Function.comp, partS, spanOf, partT]
  by_cases hlt : p.1 < p.2
  · simp [hlt, hne]
  · simp [hlt]
end
theorem lvlL_few (sens cats : List (List UInt8)) (i c : Nat) : (lvlL sens cats i c).2.length ≤ 1000 := by
  have := runsR_len (c := c) (k := 64) (i := 0)
  simp only [lvlL, List.length_map, runs]; omega
end Go.Proofs.YthpccimmmfonjaaGreatDoor
namespace Go.Proofs.YthpccimmmfonjaaGreatDoor
set_option linter.unusedVariables false
set_option linter.unusedSimpArgs false
set_option maxRecDepth 20000
set_option maxHeartbeats 4000000
open Go
def cutK (c : UInt8) : Nat → Bs → List Bs
  | 0, s => [s]
  | k + 1, s => if c ∈ s then s.takeWhile (· != c) :: cutK c k (s.dropWhile (· != c)).tail else [s]
theorem tw_hit {c : UInt8} {b : Bs} : ∀ {a : Bs}, c ∉ a → (a ++ c :: b).takeWhile (· != c) = a
  | [], _ => by simp
  | x :: a, h => by
    simp only [List.mem_cons, not_or] at h
    have hb : (x != c) = true := by simpa using Ne.symm h.1
    simp [List.takeWhile_cons, hb, tw_hit h.2]
theorem dw_hit {c : UInt8} {b : Bs} : ∀ {a : Bs}, c ∉ a → (a ++ c :: b).dropWhile (· != c) = c :: b
  | [], _ => by simp
  | x :: a, h => by
    simp only [List.mem_cons, not_or] at h
    have hb : (x != c) = true := by simpa using Ne.symm h.1
    simp [List.dropWhile_cons, hb, dw_hit h.2]
theorem cutK_miss {c : UInt8} {k : Nat} {s : Bs} (h : c ∉ s) : cutK c k s = [s] := by
  cases k with
  | zero => rfl
  | succ k => rw [cutK, if_neg h]
theorem cutK_hit {c : UInt8} {k : Nat} {a b : Bs} (h : c ∉ a) : cutK c (k + 1) (a ++ c :: b) = a :: cutK c k b := by
  rw [cutK, if_pos (by simp), tw_hit h, dw_hit h]; rfl
theorem drop_hit {c : UInt8} {s : Bs} {f i : Nat} (hf : f ≤ i) (hi : i < s.length) (hc : s[i]? = some c) (hn : ∀ j, f ≤ j → j < i → s[j]? ≠ some c) :
    s.drop f = (s.drop f).take (i - f) ++ c :: s.drop (i + 1) ∧ c ∉ (s.drop f).take (i - f) := by
  constructor
  · have h1 : (s.drop f).drop (i - f) = c :: s.drop (i + 1) := by
      rw [List.drop_drop, show f + (i - f) = i by omega, drop_get hc]
    rw [← h1, List.take_append_drop]
  · intro h
    obtain ⟨j, hj⟩ := List.getElem?_of_mem h
    rw [List.getElem?_take] at hj
    split at hj
    · rw [List.getElem?_drop] at hj
      exact hn (f + j) (by omega) (by omega) hj
    · cases hj
theorem drop_miss {c : UInt8} {s : Bs} {f : Nat} (hn : ∀ j, f ≤ j → j < s.length → s[j]? ≠ some c) : c ∉ s.drop f := by
  intro h
  obtain ⟨j, hj⟩ := List.getElem?_of_mem h
  rw [List.getElem?_drop] at hj
  exact hn (f + j) (by omega) (List.getElem?_eq_some_iff.1 hj).1 hj
theorem get_byte (s : Bs) (i : Nat) : ((⟨s.toArray⟩ : ByteArray).get! i).toNat = (s.getD i 0).toNat := by
  simp only [ByteArray.get!, List.getElem!_toArray, List.getElem!_eq_getElem?_getD, List.getD_eq_getElem?_getD]
  rfl
theorem dec_at (s : Bs) (i : Nat) (hi : i < s.length) (c : UInt8) (hc : c.toNat < 128) : ∃ r w, Utf8.decode ⟨s.toArray⟩ i = (r, w) ∧ 1 ≤ w ∧ i + w ≤ s.length ∧ ((r = c.toNat ∧ w = 1 ∧ s[i]? = some c) ∨ (r ≠ c.toNat ∧ ∀ j, i ≤ j → j < i + w → s[j]? ≠ some c)) := by
  have key : ∀ j, s[j]? = some c → (s.getD j 0).toNat = c.toNat := fun j h => by rw [List.getD_eq_getElem?_getD, h]; rfl
  have key0 : (s.getD i 0).toNat = c.toNat → s[i]? = some c := fun h => by
    obtain ⟨x, hx⟩ := get_some hi
    rw [List.getD_eq_getElem?_getD, hx, Option.getD_some] at h
    rw [hx, UInt8.toNat_inj.1 h]
  rw [Lib.decode_at]
  simp only [get_byte, show (⟨s.toArray⟩ : ByteArray).size = s.length from rfl]
  have k0 := key i
  have k1 := key (i + 1)
  have k2 := key (i + 2)
  have k3 := key (i + 3)
  generalize (s.getD i 0).toNat = b0 at *
  generalize (s.getD (i + 1) 0).toNat = b1 at *
  generalize (s.getD (i + 2) 0).toNat = b2 at *
  generalize (s.getD (i + 3) 0).toNat = b3 at *
  have one : b0 ≠ c.toNat → ∀ j, i ≤ j → j < i + 1 → s[j]? ≠ some c := fun h j h1 h2 e => by
    obtain rfl : j = i := by omega
    exact h (k0 e)
  unfold Lib.decodeN
  split
  · rename_i h
    refine ⟨_, _, rfl, by omega, by omega, ?_⟩
    by_cases e : b0 = c.toNat
    · exact .inl ⟨e, rfl, key0 e⟩
    · exact .inr ⟨e, one e⟩
  · rename_i h
    have hne : b0 ≠ c.toNat := by omega
    have bad : ∀ (p : Prop) [Decidable p] (r w : Nat), ((p → 1 ≤ w ∧ i + w ≤ s.length ∧ (r ≠ c.toNat ∧ ∀ j, i ≤ j → j < i + w → s[j]? ≠ some c))) → ∃ r' w', (if p then (r, w) else (65533, 1)) = (r', w') ∧ 1 ≤ w' ∧ i + w' ≤ s.length ∧ ((r' = c.toNat ∧ w' = 1 ∧ s[i]? = some c) ∨ (r' ≠ c.toNat ∧ ∀ j, i ≤ j → j < i + w' → s[j]? ≠ some c)) := by
      intro p _ r w hp
      by_cases h : p
      · rw [if_pos h]
        exact ⟨_, _, rfl, (hp h).1, (hp h).2.1, .inr (hp h).2.2⟩
      · rw [if_neg h]
        exact ⟨_, _, rfl, by omega, by omega, .inr ⟨by omega, one hne⟩⟩
    split
    · rename_i h1
      refine bad _ _ _ fun h2 => ⟨by omega, by omega, by omega, fun j j1 j2 e => ?_⟩
      obtain rfl | rfl : j = i ∨ j = i + 1 := by omega
      · exact hne (k0 e)
      · have := k1 e; omega
    · split
      · rename_i h1
        refine bad _ _ _ fun h2 => ⟨by omega, by omega, by omega, fun j j1 j2 e => ?_⟩
        obtain rfl | rfl | rfl : j = i ∨ j = i + 1 ∨ j = i + 2 := by omega
        · exact hne (k0 e)
        · have := k1 e; omega
        · have := k2 e; omega
      · split
        · rename_i h1
          refine bad _ _ _ fun h2 => ⟨by omega, by omega, by omega, fun j j1 j2 e => ?_⟩
          obtain rfl | rfl | rfl | rfl : j = i ∨ j = i + 1 ∨ j = i + 2 ∨ j = i + 3 := by omega
          · exact hne (k0 e)
          · have := k1 e; omega
          · have := k2 e; omega
          · have := k3 e; omega
        · exact ⟨_, _, rfl, by omega, by omega, .inr ⟨by omega, one hne⟩⟩
theorem slc_from {s : Bs} {f : Nat} (h : f ≤ s.length) : slcSSem true false [.str s, .int .i64 f] = some (.str (s.drop f)) := by
  have : (f : Int) ≤ s.length := by omega
  simp [slcSSem, bounds, this, List.take_of_length_le]
theorem slc_mid {s : Bs} {f i : Nat} (h : f ≤ i) (hi : i ≤ s.length) : slcSSem true true [.str s, .int .i64 f, .int .i64 i] = some (.str ((s.drop f).take (i - f))) := by
  have h1 : (f : Int) ≤ i := by omega
  have h2 : (i : Int) ≤ s.length := by omega
  simp [slcSSem, bounds, h1, h2]
def partsV (s : Bs) : List Bs := cutK 58 3 s
def PEnd (s : Bs) (f : Nat) (done : List Bs) (o : Option Out) : Prop :=
  ∃ u σ', o = some (.done (.tup [u, .bool (decide ((done ++ cutK 58 (3 - done.length) (s.drop f)).length = 4))]) σ') ∧ Own σ' 1 u (srows (done ++ cutK 58 (3 - done.length) (s.drop f)))
theorem pend_last {s : Bs} {f : Nat} {done : List Bs} (hd : done.length ≤ 3) (h : done.length < 3 → 58 ∉ s.drop f) : cutK 58 (3 - done.length) (s.drop f) = [s.drop f] := by
  by_cases h3 : done.length = 3
  · rw [h3]; rfl
  · exact cutK_miss (h (by omega))
theorem dec3 (n : Nat) : (((n : Int) == 3) : Bool) = decide (n + 1 = 4) := by
  rw [Bool.eq_iff_iff, beq_iff_eq, decide_eq_true_eq]; omega
theorem l50 {n : Nat} (s : Bs) (hs : s.length ≤ 1000000) : ∀ (k i f m : Nat) (done : List Bs) (v : DVal) (σ : Sto), i + k = s.length → f ≤ i → k < m → done.length ≤ 3 → Own σ 1 v (srows done) → (∀ j, f ≤ j → j < i → s[j]? ≠ some 58) →
    PEnd s f done (iterJ 0 (L50_0 (cpJ PR n) (ciJ PR n) n (.str s)) m [.int .i64 i, .int .i64 f, v] σ) := by
  intro k
  induction k with
  | zero =>
    intro i f m done v σ hi hf hm hd hv hn
    obtain ⟨m, rfl⟩ : ∃ j, m = j + 1 := ⟨m - 1, by omega⟩
    have hi' : ¬ ((i : Int) < s.length) := by omega
    have h1 := slc_from (s := s) (f := f) (by omega)
    obtain ⟨u, σ', h2, hu⟩ := own_one (own := 1) (r := [.str (s.drop f)]) hv (by simp; omega)
    have h3 := own_len hv
    rw [List.length_map] at h3
    have h4 := pend_last hd fun _ => drop_miss (f := f) fun j j1 j2 => hn j j1 (by omega)
    refine ⟨u, σ', ?_, by rw [h4]; simpa [srows] using hu⟩
    rw [h4]
    refine iterJ_done ?_
    simp -implicitDefEqProofs [L50_0, B50_0, hi', h1, h2, h3, dec3, own_okVal hu, -slcSSem.eq_1]
  | succ k ih =>
    intro i f m done v σ hi hf hm hd hv hn
    obtain ⟨m, rfl⟩ : ∃ j, m = j + 1 := ⟨m - 1, by omega⟩
    have hi' : ((i : Int) < s.length) := by omega
    obtain ⟨x, hx⟩ := get_some (by omega : i < s.length)
    have hwr := wrap_i (by omega : i < s.length) (by unfold maxLen; omega)
    have h3 := own_len hv
    rw [List.length_map] at h3
    by_cases h30 : done.length = 3
    · have h1 := slc_from (s := s) (f := f) (by omega)
      obtain ⟨u, σ', h2, hu⟩ := own_one (own := 1) (r := [.str (s.drop f)]) hv (by simp; omega)
      have h4 := pend_last (s := s) (f := f) hd fun _ => by omega
      refine ⟨u, σ', ?_, by rw [h4]; simpa [srows] using hu⟩
      rw [h4]
      refine iterJ_done ?_
      have h5 : ¬ ((done.length : Int) < 3) := by omega
      simp -implicitDefEqProofs [L50_0, B50_0, hi', h1, h2, h3, h5, dec3, own_okVal hu, -slcSSem.eq_1]
    · have h5 : ((done.length : Int) < 3) := by omega
      by_cases h58 : x = 58
      · subst h58
        obtain ⟨g1, g2⟩ := drop_hit hf (by omega) hx hn
        have h1 := slc_mid (s := s) hf (by omega)
        obtain ⟨u, σ', h2, hu⟩ := own_one (own := 1) (r := [.str ((s.drop f).take (i - f))]) hv (by simp; omega)
        have e : cutK 58 (3 - done.length) (s.drop f) = (s.drop f).take (i - f) :: cutK 58 (3 - (done ++ [(s.drop f).take (i - f)]).length) (s.drop (i + 1)) := by
          rw [g1, show 3 - done.length = (3 - done.length - 1) + 1 by omega, cutK_hit g2, ← g1, show 3 - done.length - 1 = 3 - (done ++ [(s.drop f).take (i - f)]).length by simp; omega]
        obtain ⟨u', σ'', h6, hu'⟩ := ih (i + 1) (i + 1) m (done ++ [(s.drop f).take (i - f)]) u σ' (by omega) (by omega) (by omega) (by simp; omega) (by simpa [srows] using hu) (fun j j1 j2 => by omega)
        rw [List.append_assoc, List.singleton_append, ← e] at h6 hu'
        refine ⟨u', σ'', ?_, hu'⟩
        rw [← h6]
        refine iterJ_next' ?_
        simp -implicitDefEqProofs [L50_0, B50_0, hi', hx, hwr, h1, h2, h3, h5, -slcSSem.eq_1]
      · have h6 := ih (i + 1) f m done v σ (by omega) (by omega) (by omega) hd hv (fun j j1 j2 => by
          by_cases e : j = i
          · subst e; rw [hx]; simpa using h58
          · exact hn j j1 (by omega))
        have h7 : ¬ (((x.toNat : Nat) : Int) = 58) := fun h => h58 (UInt8.toNat_inj.1 (by show x.toNat = 58; omega))
        have e : iterJ 0 (L50_0 (cpJ PR n) (ciJ PR n) n (.str s)) (m + 1) [.int .i64 i, .int .i64 f, v] σ = iterJ 0 (L50_0 (cpJ PR n) (ciJ PR n) n (.str s)) m [.int .i64 ((i + 1 : Nat) : Int), .int .i64 f, v] σ := by
          refine iterJ_next' ?_
          simp -implicitDefEqProofs [L50_0, B50_0, hi', hx, hwr, h3, h5, h7, -slcSSem.eq_1]
        rw [e]; exact h6
theorem own_nils' (σ : Sto) : Own σ 1 .nils (srows []) := own_nils σ 1
theorem e50 {n : Nat} (s : Bs) (hs : s.length ≤ 1000000) (hn : s.length + 10 ≤ n) : ∃ z, cpJ PR n 50 [.str s] = some (.tup [strsD z (partsV s), .bool (decide ((partsV s).length = 4))]) := by
  obtain ⟨n, rfl⟩ : ∃ m, n = m + 1 := ⟨n - 1, by omega⟩
  obtain ⟨u, σ', h1, hu⟩ := l50 (n := n) s hs s.length 0 0 n [] .nils emptySto (by omega) (by omega) (by omega) (by simp) (own_nils' _) (fun j j1 j2 => by omega)
  simp only [Int.natCast_zero, List.nil_append, List.length_nil, Nat.sub_zero, List.drop_zero] at h1 hu
  change _ = some (Out.done (DVal.tup [u, .bool (decide ((partsV s).length = 4))]) σ') at h1
  change Own σ' 1 u (srows (partsV s)) at hu
  obtain ⟨z, hz⟩ := own_seal hu
  refine ⟨z, ?_⟩
  rw [u50]
  simp -implicitDefEqProofs [D50, h1, hz, strsD]
theorem l46 {n : Nat} (s : Bs) (hs : s.length ≤ 1000000) : ∀ (k i f m : Nat) (done : List Bs) (v : DVal) (σ : Sto), s.length - i ≤ k → i ≤ s.length → f ≤ i → k < m → done.length ≤ 3 → Own σ 1 v (srows done) → (done.length < 3 → ∀ j, f ≤ j → j < i → s[j]? ≠ some 58) →
    PEnd s f done (iterJ 0 (L46_0 (cpJ PR n) (ciJ PR n) n (.str s)) m [.int .i64 f, v, .tup [.str s, .int .i64 i]] σ) := by
  intro k
  induction k with
  | zero =>
    intro i f m done v σ hi hil hf hm hd hv hn
    obtain ⟨m, rfl⟩ : ∃ j, m = j + 1 := ⟨m - 1, by omega⟩
    have hi' : ¬ ((i : Int) < s.length) := by omega
    have h1 := slc_from (s := s) (f := f) (by omega)
    obtain ⟨u, σ', h2, hu⟩ := own_one (own := 1) (r := [.str (s.drop f)]) hv (by simp; omega)
    have h3 := own_len hv
    rw [List.length_map] at h3
    have h4 := pend_last hd fun h => drop_miss (f := f) fun j j1 j2 => hn h j j1 (by omega)
    refine ⟨u, σ', ?_, by rw [h4]; simpa [srows] using hu⟩
    rw [h4]
    refine iterJ_done ?_
    simp -implicitDefEqProofs [L46_0, B46_0, hi', h1, h2, h3, dec3, own_okVal hu, -slcSSem.eq_1]
  | succ k ih =>
    intro i f m done v σ hi hil hf hm hd hv hn
    obtain ⟨m, rfl⟩ : ∃ j, m = j + 1 := ⟨m - 1, by omega⟩
    have h3 := own_len hv
    rw [List.length_map] at h3
    by_cases hlt : i < s.length
    · have hi' : ((i : Int) < s.length) := by omega
      have hwr := wrap_i hlt (by unfold maxLen; omega)
      obtain ⟨r, w, hdec, hw1, hw2, hcase⟩ := dec_at s i hlt 58 (by decide)
      rw [show (58 : UInt8).toNat = 58 from rfl] at hcase
      by_cases hgo : r = 58 ∧ done.length < 3
      · obtain ⟨hr, h5'⟩ := hgo
        have h5 : ((done.length : Int) < 3) := by omega
        obtain ⟨-, hw, hx⟩ : r = 58 ∧ w = 1 ∧ s[i]? = some 58 := by
          rcases hcase with h | ⟨h, -⟩
          · exact h
          · exact absurd hr h
        subst hr hw
        obtain ⟨g1, g2⟩ := drop_hit hf hlt hx (hn h5')
        have h1 := slc_mid (s := s) hf (by omega)
        obtain ⟨u, σ', h2, hu⟩ := own_one (own := 1) (r := [.str ((s.drop f).take (i - f))]) hv (by simp; omega)
        have e : cutK 58 (3 - done.length) (s.drop f) = (s.drop f).take (i - f) :: cutK 58 (3 - (done ++ [(s.drop f).take (i - f)]).length) (s.drop (i + 1)) := by
          rw [g1, show 3 - done.length = (3 - done.length - 1) + 1 by omega, cutK_hit g2, ← g1, show 3 - done.length - 1 = 3 - (done ++ [(s.drop f).take (i - f)]).length by simp; omega]
        obtain ⟨u', σ'', h6, hu'⟩ := ih (i + 1) (i + 1) m (done ++ [(s.drop f).take (i - f)]) u σ' (by omega) (by omega) (by omega) (by omega) (by simp; omega) (by simpa [srows] using hu) (fun _ j j1 j2 => by omega)
        rw [List.append_assoc, List.singleton_append, ← e] at h6 hu'
        refine ⟨u', σ'', ?_, hu'⟩
        rw [← h6]
        refine iterJ_next' ?_
        simp -implicitDefEqProofs [L46_0, B46_0, hi', hdec, hwr, h1, h2, h3, h5, -slcSSem.eq_1]
      · have h6 := ih (i + w) f m done v σ (by omega) (by omega) (by omega) (by omega) hd hv (fun h5 j j1 j2 => by
          by_cases e : j < i
          · exact hn h5 j j1 e
          · rcases hcase with ⟨h, -⟩ | ⟨-, h⟩
            · exact absurd ⟨h, h5⟩ hgo
            · exact h j (by omega) j2)
        have e : iterJ 0 (L46_0 (cpJ PR n) (ciJ PR n) n (.str s)) (m + 1) [.int .i64 f, v, .tup [.str s, .int .i64 i]] σ = iterJ 0 (L46_0 (cpJ PR n) (ciJ PR n) n (.str s)) m [.int .i64 f, v, .tup [.str s, .int .i64 ((i + w : Nat) : Int)]] σ := by
          refine iterJ_next' ?_
          by_cases hr : r = 58
          · have h5 : ¬ ((done.length : Int) < 3) := fun h => hgo ⟨hr, by omega⟩
            subst hr
            simp -implicitDefEqProofs [L46_0, B46_0, hi', hdec, h3, h5, -slcSSem.eq_1]
          · have h7 : ((r : Int) == 58) = false := beq_eq_false_iff_ne.2 (by omega)
            simp -implicitDefEqProofs [L46_0, B46_0, hi', hdec, h3, h7, -slcSSem.eq_1, -beq_eq_false_iff_ne, -beq_iff_eq]
        rw [e]; exact h6
    · have hi' : ¬ ((i : Int) < s.length) := by omega
      have h1 := slc_from (s := s) (f := f) (by omega)
      obtain ⟨u, σ', h2, hu⟩ := own_one (own := 1) (r := [.str (s.drop f)]) hv (by simp; omega)
      have h4 := pend_last hd fun h => drop_miss (f := f) fun j j1 j2 => hn h j j1 (by omega)
      refine ⟨u, σ', ?_, by rw [h4]; simpa [srows] using hu⟩
      rw [h4]
      refine iterJ_done ?_
      simp -implicitDefEqProofs [L46_0, B46_0, hi', h1, h2, h3, dec3, own_okVal hu, -slcSSem.eq_1]
theorem e46 {n : Nat} (s : Bs) (hs : s.length ≤ 1000000) (hn : s.length + 10 ≤ n) : ∃ z, cpJ PR n 46 [.str s] = some (.tup [strsD z (partsV s), .bool (decide ((partsV s).length = 4))]) := by
  obtain ⟨n, rfl⟩ : ∃ m, n = m + 1 := ⟨n - 1, by omega⟩
  obtain ⟨u, σ', h1, hu⟩ := l46 (n := n) s hs s.length 0 0 n [] .nils emptySto (by omega) (by omega) (by omega) (by omega) (by simp) (own_nils' _) (fun _ j j1 j2 => by omega)
  simp only [Int.natCast_zero, List.nil_append, List.length_nil, Nat.sub_zero, List.drop_zero] at h1 hu
  change _ = some (Out.done (DVal.tup [u, .bool (decide ((partsV s).length = 4))]) σ') at h1
  change Own σ' 1 u (srows (partsV s)) at hu
  obtain ⟨z, hz⟩ := own_seal hu
  refine ⟨z, ?_⟩
  rw [u46]
  simp -implicitDefEqProofs [D46, h1, hz, strsD]
def findI {α : Type} (f : α → Bool) : List α → Nat → Int
  | [], _ => -1
  | x :: l, i => if f x then (i : Int) else findI f l (i + 1)
def userF (s : Bs) (u : UserV) : Bool := u.name == s
def roleF (s : Bs) (r : RoleV) : Bool := r.name == s
def typeF (s : Bs) (t : TypeV) : Bool := t.name == s || decide (s ∈ t.aliases.l)
section
variable {s : Bs} {a : Nat} {σ : Sto} (ho : σ.obj a = .agg [.str s]) (ha : a < σ.nobj)
include ho ha
theorem ld_name : ldOSem σ none [.obj a 0] = some (.str s, σ) := by
  rw [ld_obj none ho ha]; rfl
theorem e88 {n : Nat} (hn : 1 ≤ n) (u : UserV) : ciJ PR n 88 [u.d, .obj a 0] σ = some (.bool (userF s u), σ) := by
  obtain ⟨n, rfl⟩ : ∃ m, n = m + 1 := ⟨n - 1, by omega⟩
  have h1 := ld_name ho ha
  rw [v88]
  simp -implicitDefEqProofs [D88, h1, userF]
theorem e90 {n : Nat} (hn : 1 ≤ n) (u : RoleV) : ciJ PR n 90 [u.d, .obj a 0] σ = some (.bool (roleF s u), σ) := by
  obtain ⟨n, rfl⟩ : ∃ m, n = m + 1 := ⟨n - 1, by omega⟩
  have h1 := ld_name ho ha
  rw [v90]
  simp -implicitDefEqProofs [D90, h1, roleF]
theorem e92 {n : Nat} (t : TypeV) (hl : t.aliases.l.length ≤ 100) (hn : 200 ≤ n) : ciJ PR n 92 [t.d, .obj a 0] σ = some (.bool (typeF s t), σ) := by
  obtain ⟨n, rfl⟩ : ∃ m, n = m + 1 := ⟨n - 1, by omega⟩
  have h1 := ld_name ho ha
  have h2 : cpJ PR n 93 [strs t.aliases, .str s] = some (.bool (decide (s ∈ t.aliases.l))) := e93 (n := n) t.aliases.z t.aliases.l s (by omega) (by omega)
  rw [v92]
  cases h : (t.name == s) <;> simp -implicitDefEqProofs [D92, h1, h2, typeF, h, -beq_iff_eq, -beq_eq_false_iff_ne]
theorem l87 {n : Nat} (hn : 1 ≤ n) (us : Sl UserV) (hl : us.l.length ≤ 1000) : ∀ (k i m : Nat) (w : DVal), i + k = us.l.length → k < m →
    iterJ 0 (L87_0 (cpJ PR n) (ciJ PR n) n (slOf 11 UserV.row us) (.func 88 [.obj a 0]) (.int .i64 us.l.length)) m [.int .i64 i, w] σ = some (.done (.int .i64 (findI (userF s) (us.l.drop i) i)) σ) := by
  intro k
  induction k with
  | zero =>
    intro i m w hi hm
    obtain ⟨m, rfl⟩ : ∃ j, m = j + 1 := ⟨m - 1, by omega⟩
    have hi' : ¬ ((i : Int) < us.l.length) := by omega
    rw [List.drop_eq_nil_of_le (by omega)]
    refine iterJ_done ?_
    simp -implicitDefEqProofs [L87_0, B87_0, hi', findI]
  | succ k ih =>
    intro i m w hi hm
    obtain ⟨m, rfl⟩ : ∃ j, m = j + 1 := ⟨m - 1, by omega⟩
    have hi' : ((i : Int) < us.l.length) := by omega
    obtain ⟨x, hx⟩ := get_some (by omega : i < us.l.length)
    have hwr := wrap_i (by omega : i < us.l.length) (by unfold maxLen; omega)
    have h1 := e88 ho ha hn x
    rw [drop_get hx, findI]
    cases hf : userF s x <;> rw [hf] at h1
    · simp only [Bool.false_eq_true, if_false]
      rw [← ih (i + 1) m w (by omega) (by omega)]
      refine iterJ_next' ?_
      simp -implicitDefEqProofs [L87_0, B87_0, hi', hx, hwr, h1]
    · refine iterJ_done ?_
      simp -implicitDefEqProofs [L87_0, B87_0, hi', hx, hwr, h1]
theorem l89 {n : Nat} (hn : 1 ≤ n) (us : Sl RoleV) (hl : us.l.length ≤ 1000) : ∀ (k i m : Nat) (w : DVal), i + k = us.l.length → k < m →
    iterJ 0 (L89_0 (cpJ PR n) (ciJ PR n) n (slOf 9 RoleV.row us) (.func 90 [.obj a 0]) (.int .i64 us.l.length)) m [.int .i64 i, w] σ = some (.done (.int .i64 (findI (roleF s) (us.l.drop i) i)) σ) := by
  intro k
  induction k with
  | zero =>
    intro i m w hi hm
    obtain ⟨m, rfl⟩ : ∃ j, m = j + 1 := ⟨m - 1, by omega⟩
    have hi' : ¬ ((i : Int) < us.l.length) := by omega
    rw [List.drop_eq_nil_of_le (by omega)]
    refine iterJ_done ?_
    simp -implicitDefEqProofs [L89_0, B89_0, hi', findI]
  | succ k ih =>
    intro i m w hi hm
    obtain ⟨m, rfl⟩ : ∃ j, m = j + 1 := ⟨m - 1, by omega⟩
    have hi' : ((i : Int) < us.l.length) := by omega
    obtain ⟨x, hx⟩ := get_some (by omega : i < us.l.length)
    have hwr := wrap_i (by omega : i < us.l.length) (by unfold maxLen; omega)
    have h1 := e90 ho ha hn x
    rw [drop_get hx, findI]
    cases hf : roleF s x <;> rw [hf] at h1
    · simp only [Bool.false_eq_true, if_false]
      rw [← ih (i + 1) m w (by omega) (by omega)]
      refine iterJ_next' ?_
      simp -implicitDefEqProofs [L89_0, B89_0, hi', hx, hwr, h1]
    · refine iterJ_done ?_
      simp -implicitDefEqProofs [L89_0, B89_0, hi', hx, hwr, h1]
theorem l91 {n : Nat} (hn : 200 ≤ n) (us : Sl TypeV) (hl : us.l.length ≤ 1000) (hal : ∀ t ∈ us.l, t.aliases.l.length ≤ 4) : ∀ (k i m : Nat) (w : DVal), i + k = us.l.length → k < m →
    iterJ 0 (L91_0 (cpJ PR n) (ciJ PR n) n (slOf 3 TypeV.row us) (.func 92 [.obj a 0]) (.int .i64 us.l.length)) m [.int .i64 i, w] σ = some (.done (.int .i64 (findI (typeF s) (us.l.drop i) i)) σ) := by
  intro k
  induction k with
  | zero =>
    intro i m w hi hm
    obtain ⟨m, rfl⟩ : ∃ j, m = j + 1 := ⟨m - 1, by omega⟩
    have hi' : ¬ ((i : Int) < us.l.length) := by omega
    rw [List.drop_eq_nil_of_le (by omega)]
    refine iterJ_done ?_
    simp -implicitDefEqProofs [L91_0, B91_0, hi', findI]
  | succ k ih =>
    intro i m w hi hm
    obtain ⟨m, rfl⟩ : ∃ j, m = j + 1 := ⟨m - 1, by omega⟩
    have hi' : ((i : Int) < us.l.length) := by omega
    obtain ⟨x, hx⟩ := get_some (by omega : i < us.l.length)
    have hwr := wrap_i (by omega : i < us.l.length) (by unfold maxLen; omega)
    have h1 := e92 ho ha (n := n) x (by have := hal x (List.mem_of_getElem? hx); omega) hn
    rw [drop_get hx, findI]
    cases hf : typeF s x <;> rw [hf] at h1
    · simp only [Bool.false_eq_true, if_false]
      rw [← ih (i + 1) m w (by omega) (by omega)]
      refine iterJ_next' ?_
      simp -implicitDefEqProofs [L91_0, B91_0, hi', hx, hwr, h1]
    · refine iterJ_done ?_
      simp -implicitDefEqProofs [L91_0, B91_0, hi', hx, hwr, h1]
end
theorem box_str (σ : Sto) (s : Bs) : boxOSem σ [.str s] = some (.obj σ.nobj 0, σ.new (.agg [.str s])) := rfl
theorem e47 {n : Nat} (hn : 2000 ≤ n) (p : PolV) (hp : SmallP p) (s : Bs) : cpJ PR n 47 [p.d, .str s] = some (.int .i64 (findI (userF s) p.users.l 0)) := by
  obtain ⟨n, rfl⟩ : ∃ m, n = m + 2 := ⟨n - 2, by omega⟩
  have hl := hp.users
  have h1 := l87 (n := n) (s := s) (a := emptySto.nobj) (σ := emptySto.new (.agg [.str s])) (by simp) (by simp) (by omega) p.users (by omega) p.users.l.length 0 n (.int .i64 0) (by omega) (by omega)
  simp only [Int.natCast_zero, List.drop_zero] at h1
  have h2 : ciJ PR (n + 1) 87 [slOf 11 UserV.row p.users, .func 88 [.obj emptySto.nobj 0]] (emptySto.new (.agg [.str s])) = some (.int .i64 (findI (userF s) p.users.l 0), emptySto.new (.agg [.str s])) := by
    rw [v87]
    simp -implicitDefEqProofs [D87, h1]
  rw [u47]
  simp -implicitDefEqProofs [D47, box_str, h2]
theorem e48 {n : Nat} (hn : 2000 ≤ n) (p : PolV) (hp : SmallP p) (s : Bs) : cpJ PR n 48 [p.d, .str s] = some (.int .i64 (findI (roleF s) p.roles.l 0)) := by
  obtain ⟨n, rfl⟩ : ∃ m, n = m + 2 := ⟨n - 2, by omega⟩
  have hl := hp.roles
  have h1 := l89 (n := n) (s := s) (a := emptySto.nobj) (σ := emptySto.new (.agg [.str s])) (by simp) (by simp) (by omega) p.roles (by omega) p.roles.l.length 0 n (.int .i64 0) (by omega) (by omega)
  simp only [Int.natCast_zero, List.drop_zero] at h1
  have h2 : ciJ PR (n + 1) 89 [slOf 9 RoleV.row p.roles, .func 90 [.obj emptySto.nobj 0]] (emptySto.new (.agg [.str s])) = some (.int .i64 (findI (roleF s) p.roles.l 0), emptySto.new (.agg [.str s])) := by
    rw [v89]
    simp -implicitDefEqProofs [D89, h1]
  rw [u48]
  simp -implicitDefEqProofs [D48, box_str, h2]
theorem e49 {n : Nat} (hn : 2000 ≤ n) (p : PolV) (hp : SmallP p) (s : Bs) : cpJ PR n 49 [p.d, .str s] = some (.int .i64 (findI (typeF s) p.types.l 0)) := by
  obtain ⟨n, rfl⟩ : ∃ m, n = m + 2 := ⟨n - 2, by omega⟩
  have hl := hp.types
  have h1 := l91 (n := n) (s := s) (a := emptySto.nobj) (σ := emptySto.new (.agg [.str s])) (by simp) (by simp) (by omega) p.types (by omega) hp.aliases p.types.l.length 0 n (.int .i64 0) (by omega) (by omega)
  simp only [Int.natCast_zero, List.drop_zero] at h1
  have h2 : ciJ PR (n + 1) 91 [slOf 3 TypeV.row p.types, .func 92 [.obj emptySto.nobj 0]] (emptySto.new (.agg [.str s])) = some (.int .i64 (findI (typeF s) p.types.l 0), emptySto.new (.agg [.str s])) := by
    rw [v91]
    simp -implicitDefEqProofs [D91, h1]
  rw [u49]
  simp -implicitDefEqProofs [D49, box_str, h2]
def refI (i : Int) : DVal := if i < 0 then .tup [.int .i64 0, .bool false] else .tup [.int .i64 i, .bool true]
@[simp] theorem back_refI (σ : Sto) (i : Int) : (refI i).handBack σ = some (refI i) := by unfold refI; split <;> rfl
theorem refI_nat (i : Nat) : refI (i : Int) = .tup [.int .i64 i, .bool true] := by rw [refI, if_neg (by omega)]
theorem l94 {n : Nat} (s : Bs) (p : PolV) (hl : p.users.l.length ≤ 1000) (σ : Sto) : ∀ (k i m : Nat) (w x : DVal), i + k = p.users.l.length → k < m →
    iterJ 0 (L94_0 (cpJ PR n) (ciJ PR n) n (.str s) p.d) m [.int .i64 i, w, x] σ = some (.done (refI (findI (userF s) (p.users.l.drop i) i)) σ) := by
  intro k
  induction k with
  | zero =>
    intro i m w x hi hm
    obtain ⟨m, rfl⟩ : ∃ j, m = j + 1 := ⟨m - 1, by omega⟩
    have hi' : ¬ ((i : Int) < p.users.l.length) := by omega
    rw [List.drop_eq_nil_of_le (by omega)]
    refine iterJ_done ?_
    simp -implicitDefEqProofs [L94_0, B94_0, hi', findI, refI]
  | succ k ih =>
    intro i m w x hi hm
    obtain ⟨m, rfl⟩ : ∃ j, m = j + 1 := ⟨m - 1, by omega⟩
    have hi' : ((i : Int) < p.users.l.length) := by omega
    obtain ⟨y, hy⟩ := get_some (by omega : i < p.users.l.length)
    have hwr := wrap_i (by omega : i < p.users.l.length) (by unfold maxLen; omega)
    rw [drop_get hy, findI]
    cases hf : userF s y
    · have hf' : (y.name == s) = false := hf
      simp only [Bool.false_eq_true, if_false]
      rw [← ih (i + 1) m w x (by omega) (by omega)]
      refine iterJ_next' ?_
      simp -implicitDefEqProofs [L94_0, B94_0, hi', hy, hwr, hf', -beq_iff_eq, -beq_eq_false_iff_ne]
    · have hf' : (y.name == s) = true := hf
      rw [if_pos rfl, refI_nat]
      refine iterJ_done ?_
      simp -implicitDefEqProofs [L94_0, B94_0, hi', hy, hwr, hf', -beq_iff_eq, -beq_eq_false_iff_ne]
theorem l95 {n : Nat} (s : Bs) (p : PolV) (hl : p.roles.l.length ≤ 1000) (σ : Sto) : ∀ (k i m : Nat) (w x : DVal), i + k = p.roles.l.length → k < m →
    iterJ 0 (L95_0 (cpJ PR n) (ciJ PR n) n (.str s) p.d) m [.int .i64 i, w, x] σ = some (.done (refI (findI (roleF s) (p.roles.l.drop i) i)) σ) := by
  intro k
  induction k with
  | zero =>
    intro i m w x hi hm
    obtain ⟨m, rfl⟩ : ∃ j, m = j + 1 := ⟨m - 1, by omega⟩
    have hi' : ¬ ((i : Int) < p.roles.l.length) := by omega
    rw [List.drop_eq_nil_of_le (by omega)]
    refine iterJ_done ?_
    simp -implicitDefEqProofs [L95_0, B95_0, hi', findI, refI]
  | succ k ih =>
    intro i m w x hi hm
    obtain ⟨m, rfl⟩ : ∃ j, m = j + 1 := ⟨m - 1, by omega⟩
    have hi' : ((i : Int) < p.roles.l.length) := by omega
    obtain ⟨y, hy⟩ := get_some (by omega : i < p.roles.l.length)
    have hwr := wrap_i (by omega : i < p.roles.l.length) (by unfold maxLen; omega)
    rw [drop_get hy, findI]
    cases hf : roleF s y
    · have hf' : (y.name == s) = false := hf
      simp only [Bool.false_eq_true, if_false]
      rw [← ih (i + 1) m w x (by omega) (by omega)]
      refine iterJ_next' ?_
      simp -implicitDefEqProofs [L95_0, B95_0, hi', hy, hwr, hf', -beq_iff_eq, -beq_eq_false_iff_ne]
    · have hf' : (y.name == s) = true := hf
      rw [if_pos rfl, refI_nat]
      refine iterJ_done ?_
      simp -implicitDefEqProofs [L95_0, B95_0, hi', hy, hwr, hf', -beq_iff_eq, -beq_eq_false_iff_ne]
theorem l129 {n : Nat} (z : Sl Bs) (s : Bs) (hl : z.l.length ≤ 1000) (σ : Sto) : ∀ (k i m : Nat) (w : DVal), i + k = z.l.length → k < m →
    iterJ 0 (L129_0 (cpJ PR n) (ciJ PR n) n (strs z) (.str s)) m [.int .i64 i, w] σ = some (.done (.int .i64 (idxAt s (z.l.drop i) i)) σ) := by
  intro k
  induction k with
  | zero =>
    intro i m w hi hm
    obtain ⟨m, rfl⟩ : ∃ j, m = j + 1 := ⟨m - 1, by omega⟩
    have hi' : ¬ ((i : Int) < z.l.length) := by omega
    rw [List.drop_eq_nil_of_le (by omega)]
    refine iterJ_done ?_
    simp -implicitDefEqProofs [L129_0, B129_0, hi', idxAt]
  | succ k ih =>
    intro i m w hi hm
    obtain ⟨m, rfl⟩ : ∃ j, m = j + 1 := ⟨m - 1, by omega⟩
    have hi' : ((i : Int) < z.l.length) := by omega
    obtain ⟨y, hy⟩ := get_some (by omega : i < z.l.length)
    have hwr := wrap_i (by omega : i < z.l.length) (by unfold maxLen; omega)
    rw [drop_get hy, idxAt]
    by_cases hf : y = s
    · subst hf
      rw [if_pos rfl]
      refine iterJ_done ?_
      simp -implicitDefEqProofs [L129_0, B129_0, hi', hy, hwr]
    · rw [if_neg hf]
      rw [← ih (i + 1) m w (by omega) (by omega)]
      refine iterJ_next' ?_
      simp -implicitDefEqProofs [L129_0, B129_0, hi', hy, hwr, hf]
end Go.Proofs.YthpccimmmfonjaaGreatDoor
namespace Go.Proofs.YthpccimmmfonjaaGreatDoor
set_option linter.unusedVariables false
set_option linter.unusedSimpArgs false
set_option maxRecDepth 20000
set_option maxHeartbeats 4000000
open Go
theorem e94 {n : Nat} (hn : 2000 ≤ n) (p : PolV) (hp : SmallP p) (s : Bs) : cpJ PR n 94 [p.d, .str s] = some (refI (findI (userF s) p.users.l 0)) := by
  obtain ⟨n, rfl⟩ : ∃ m, n = m + 1 := ⟨n - 1, by omega⟩
  have hl := hp.users
  have h1 := l94 (n := n) s p (by omega) emptySto p.users.l.length 0 n (.bool false) (.int .i64 0) (by omega) (by omega)
  simp only [Int.natCast_zero, List.drop_zero] at h1
  rw [u94]
  simp -implicitDefEqProofs [D94, h1]
theorem e95 {n : Nat} (hn : 2000 ≤ n) (p : PolV) (hp : SmallP p) (s : Bs) : cpJ PR n 95 [p.d, .str s] = some (refI (findI (roleF s) p.roles.l 0)) := by
  obtain ⟨n, rfl⟩ : ∃ m, n = m + 1 := ⟨n - 1, by omega⟩
  have hl := hp.roles
  have h1 := l95 (n := n) s p (by omega) emptySto p.roles.l.length 0 n (.bool false) (.int .i64 0) (by omega) (by omega)
  simp only [Int.natCast_zero, List.drop_zero] at h1
  rw [u95]
  simp -implicitDefEqProofs [D95, h1]
theorem e129 {n : Nat} (z : Sl Bs) (s : Bs) (hl : z.l.length ≤ 1000) (hn : 1100 ≤ n) : cpJ PR n 129 [strs z, .str s] = some (.int .i64 (idxAt s z.l 0)) := by
  obtain ⟨n, rfl⟩ : ∃ m, n = m + 1 := ⟨n - 1, by omega⟩
  have h1 := l129 (n := n) z s hl emptySto z.l.length 0 n (.int .i64 0) (by omega) (by omega)
  simp only [Int.natCast_zero, List.drop_zero] at h1
  rw [u129]
  simp -implicitDefEqProofs [D129, h1]
def envD (p : PolV) : DVal := .agg [slOf 3 TypeV.row p.types, slOf 5 AttrV.row p.attrs]
theorem l96 {n : Nat} (hn : 1100 ≤ n) (s : Bs) (p : PolV) (hp : SmallP p) (σ : Sto) : ∀ (k i m : Nat) (w x : DVal), i + k = p.types.l.length → k < m →
    iterJ 0 (L96_0 (cpJ PR n) (ciJ PR n) n (.str s) (envD p)) m [.int .i64 i, w, x] σ = some (.done (refI (findI (typeF s) (p.types.l.drop i) i)) σ) := by
  have hl := hp.types
  intro k
  induction k with
  | zero =>
    intro i m w x hi hm
    obtain ⟨m, rfl⟩ : ∃ j, m = j + 1 := ⟨m - 1, by omega⟩
    have hi' : ¬ ((i : Int) < p.types.l.length) := by omega
    rw [List.drop_eq_nil_of_le (by omega)]
    refine iterJ_done ?_
    simp -implicitDefEqProofs [L96_0, B96_0, envD, hi', findI, refI]
  | succ k ih =>
    intro i m w x hi hm
    obtain ⟨m, rfl⟩ : ∃ j, m = j + 1 := ⟨m - 1, by omega⟩
    have hi' : ((i : Int) < p.types.l.length) := by omega
    obtain ⟨y, hy⟩ := get_some (by omega : i < p.types.l.length)
    have hwr := wrap_i (by omega : i < p.types.l.length) (by unfold maxLen; omega)
    have hal := hp.aliases y (List.mem_of_getElem? hy)
    have h1 := e129 (n := n) y.aliases s (by omega) hn
    have h2 := idxAt_ge s y.aliases.l 0
    rw [drop_get hy, findI]
    by_cases hf : typeF s y = true
    · rw [if_pos hf, refI_nat]
      refine iterJ_done ?_
      cases hf' : (y.name == s)
      · have h3 : s ∈ y.aliases.l := by simpa [typeF, hf'] using hf
        have h4 := h2.2 h3
        simp -implicitDefEqProofs [L96_0, B96_0, envD, hi', hy, hwr, hf', h1, h4, -beq_iff_eq, -beq_eq_false_iff_ne]
      · simp -implicitDefEqProofs [L96_0, B96_0, envD, hi', hy, hwr, hf', -beq_iff_eq, -beq_eq_false_iff_ne]
    · rw [if_neg hf, ← ih (i + 1) m w x (by omega) (by omega)]
      refine iterJ_next' ?_
      have hf' : (y.name == s) = false := by
        cases h : (y.name == s)
        · rfl
        · exact absurd (by simp [typeF, h]) hf
      have h3 : ¬ s ∈ y.aliases.l := fun h => hf (by simp [typeF, h])
      have h4 : ¬ 0 ≤ idxAt s y.aliases.l 0 := fun h => h3 (h2.1 h)
      simp -implicitDefEqProofs [L96_0, B96_0, envD, hi', hy, hwr, hf', h1, h4, -beq_iff_eq, -beq_eq_false_iff_ne]
theorem e96 {n : Nat} (hn : 2000 ≤ n) (p : PolV) (hp : SmallP p) (s : Bs) : cpJ PR n 96 [.str s, .agg [slOf 3 TypeV.row p.types, slOf 5 AttrV.row p.attrs]] = some (refI (findI (typeF s) p.types.l 0)) := by
  obtain ⟨n, rfl⟩ : ∃ m, n = m + 1 := ⟨n - 1, by omega⟩
  have hl := hp.types
  have h1 := l96 (n := n) (by omega) s p hp emptySto p.types.l.length 0 n (.bool false) (.int .i64 0) (by omega) (by omega)
  simp only [Int.natCast_zero, List.drop_zero] at h1
  unfold envD at h1
  rw [u96]
  simp -implicitDefEqProofs [D96, h1]
def numI (i : Int) : Int := if i < 0 then 0 else i
theorem numI_nn {i : Int} (h : ¬ i < 0) : numI i = i := if_neg h
theorem refI_eq (i : Int) : refI i = .tup [.int .i64 (numI i), .bool (decide (0 ≤ i))] := by
  unfold refI numI
  by_cases h : i < 0
  · rw [if_pos h, if_pos h, decide_eq_false (by omega)]
  · rw [if_neg h, if_neg h, decide_eq_true (by omega)]
def LvV.z : LvV := ⟨0, 0, by decide⟩
def CtxV.z : CtxV := ⟨0, 0, 0, LvV.z, LvV.z⟩
abbrev rngA (l h : LvV) : DVal := .agg [.int .i64 l.s, .int .u64 l.c, .int .i64 h.s, .int .u64 h.c]
abbrev ctxA (u r t : Int) (l h : LvV) : DVal := .agg [.int .i64 u, .int .i64 r, .int .i64 t, .int .i64 l.s, .int .u64 l.c, .int .i64 h.s, .int .u64 h.c]
abbrev ctx0 (u r t : Int) : DVal := .agg [.int .i64 u, .int .i64 r, .int .i64 t, .int .i64 0, .int .u64 0, .int .i64 0, .int .u64 0]
def namedI (p : PolV) (a b c : Bs) : Int × Int × Int := (findI (userF a) p.users.l 0, findI (roleF b) p.roles.l 0, findI (typeF c) p.types.l 0)
def okI (x : Int × Int × Int) : Bool := decide (0 ≤ x.1) && decide (0 ≤ x.2.1) && decide (0 ≤ x.2.2)
theorem e51 {n : Nat} (hn : 2100 ≤ n) (p : PolV) (hp : SmallP p) (a b c : Bs) : cpJ PR n 51 [p.d, .str a, .str b, .str c] =
    some (.tup [ctx0 (numI (namedI p a b c).1) (numI (namedI p a b c).2.1) (numI (namedI p a b c).2.2), .bool (okI (namedI p a b c))]) := by
  obtain ⟨n, rfl⟩ : ∃ m, n = m + 1 := ⟨n - 1, by omega⟩
  have h1 := e94 (n := n) (by omega) p hp a
  have h2 := e95 (n := n) (by omega) p hp b
  have h3 := e96 (n := n) (by omega) p hp c
  rw [refI_eq] at h1 h2 h3
  rw [u51]
  unfold namedI okI
  simp only
  generalize decide (0 ≤ findI (userF a) p.users.l 0) = q1 at *
  generalize decide (0 ≤ findI (roleF b) p.roles.l 0) = q2 at *
  generalize decide (0 ≤ findI (typeF c) p.types.l 0) = q3 at *
  cases q1 <;> cases q2 <;> cases q3 <;> simp -implicitDefEqProofs [D51, h1, h2, h3]
def LPar (sens cats : List Bs) (s : Bs) (r : LvV × LvV × Int) : Prop := ∀ n z z', 24100 ≤ n → cpJ PR n 26 [.str s, strsD z sens, strsD z' cats] = some (.tup [rngA r.1 r.2.1, .int .i64 r.2.2])
def LParR (sens cats : List Bs) (s : Bs) (r : LvV × LvV × Int) : Prop := ∀ n z z', 24100 ≤ n → cpJ PR n 52 [.str s, strsD z sens, strsD z' cats] = some (.tup [rngA r.1 r.2.1, .int .i64 r.2.2])
theorem LvV.ext' {a b : LvV} (h1 : a.s = b.s) (h2 : (a.c : Int) = b.c) : a = b := by
  cases a; cases b
  simp only at h1 h2
  obtain rfl := h1
  obtain rfl := Int.ofNat_inj.1 h2
  rfl
structure Lev (sens cats : List Bs) : Prop where
  few : Few sens cats
  prop : propV sens cats = true
theorem names_dist {l : List Bs} : ∀ {pre rest : List Bs}, (∀ s ∈ rest, okName s = true) → (pre ++ rest).Nodup → distB pre rest = true
  | pre, [], _, _ => rfl
  | pre, s :: rest, h1, h2 => by
    rw [distB, h1 s (by simp)]
    have h3 : s ∉ pre := fun h => by
      have := (List.nodup_append.1 h2).2.2 s h s (by simp)
      exact this rfl
    have h4 := names_dist (l := l) (pre := pre ++ [s]) (rest := rest) (fun x hx => h1 x (by simp [hx])) (by simpa using h2)
    simp [h3, h4]
theorem Good'.lev {p : PolV} (g : Good' p) : Lev p.sens.l p.cats.l := by
  have h1 := g.small.sens
  have h2 := g.small.cats
  obtain ⟨c1, c2⟩ := g.cats
  have len : ∀ {s : Bs}, okName s = true → s.length ≤ 32 := fun h => by
    unfold okName at h
    simp only [Bool.and_eq_true, decide_eq_true_eq] at h
    exact h.1
  refine ⟨⟨by omega, by omega, fun s hs => ?_, fun s hs => ?_⟩, ?_⟩
  · have := len (c1.ok s hs); omega
  · have := len (c2.ok s hs); omega
  · have d1 := names_dist (l := []) (pre := []) c1.ok (by simpa using c1.nd)
    have d2 := names_dist (l := []) (pre := []) c2.ok (by simpa using c2.nd)
    have b1 : decide ((p.sens.l.length : Int) ≤ 16) = true := decide_eq_true (by omega)
    have b2 : decide ((p.cats.l.length : Int) ≤ 64) = true := decide_eq_true (by omega)
    simp [propV, properB, d1, d2, b1, b2]
theorem lpar_exR {sens cats : List Bs} (L : Lev sens cats) (s : Bs) (hs : s.length ≤ 1000) : ∃ r, LPar sens cats s r ∧ LParR sens cats s r ∧ (r.2.2 = 0 → rangeV r.1.s r.1.c r.2.1.s r.2.1.c sens.length cats.length = true) := by
  obtain ⟨hF, hP⟩ := L
  cases hr : readP s with
  | none =>
    refine ⟨(LvV.z, LvV.z, 9), fun n z z' hn => e26_none (n := n) (by omega) z z' hF s hs hP hr, fun n z z' hn => e27_none (n := n) (by omega) z z' hF s hs hP (by rw [← read_eq s (by omega)]; exact hr), fun h => ?_⟩
    simp at h
  | some x =>
    obtain ⟨l, h⟩ := x
    obtain ⟨f1, f2⟩ := readP_few hs hr
    obtain ⟨t, c, e, hc, l1⟩ := levelV_form sens cats l.1 l.2
    obtain ⟨t', c', e', hc', l2⟩ := levelV_form sens cats h.1 h.2
    obtain ⟨a, d, a', d', f, hR⟩ := rangeRV_form t c e t' c' e' (h.1 = [] ∧ h.2 = [])
    have hd : d < 18446744073709551616 ∧ d' < 18446744073709551616 := by
      unfold rangeRV at hR
      repeat' split at hR
      all_goals
        simp only [DVal.tup.injEq, List.cons.injEq, DVal.agg.injEq, DVal.int.injEq, true_and, and_true] at hR
        omega
    refine ⟨(⟨a, d, hd.1⟩, ⟨a', d', hd.2⟩, f), fun n z z' hn => ?_, fun n z z' hn => ?_, fun h0 => ?_⟩
    · have h6 := e56 (n := n - 1) (by omega) z z' .nil .nil hF l.1 h.1 l.2 h.2 f1 f2 t c e hc l1 t' c' e' hc' l2
      rw [hR] at h6
      exact e26_some (n := n) (by omega) z z' hF s hs hP hr h6
    · have h7 := e99 (n := n - 1) (by omega) z z' .nil .nil hF l.1 h.1 l.2 h.2 f1 f2 t c e hc l1 t' c' e' hc' l2
      rw [hR] at h7
      exact e27_some (n := n) (by omega) z z' hF s hs hP (by rw [← read_eq s (by omega)]; exact hr) h7
    · simp only at h0 ⊢
      subst h0
      exact (rangeRV_ok hc hc' l1 l2 hR).1
theorem lpar_text {sens cats : List Bs} (L : Lev sens cats) (lo hi : LvV) (hV : rangeV lo.s lo.c hi.s hi.c sens.length cats.length = true) : LPar sens cats (textV sens cats lo.s lo.c hi.s hi.c) (lo, hi, 0) := by
  obtain ⟨hF, hP⟩ := L
  obtain ⟨s, c, hc⟩ := lo
  obtain ⟨s', c', hc'⟩ := hi
  intro n z z' hn
  simp only at hV ⊢
  have hr : Rok c c' := ⟨hc, hc'⟩
  have hdom : domV s' c' s c = true := by
    simp only [rangeV, Bool.and_eq_true] at hV; exact hV.2
  obtain ⟨⟨i, i', rfl, rfl, hi, hi'⟩, hb, hb'⟩ := range_facts hr hV
  have v1 := validL_back hP hi hb
  have v2 := validL_back hP hi' hb'
  have w1 := render_back (i := i) hP hb
  have w2 := render_back (i := i') hP hb'
  have q1 := levelV_back hP hi hr.lo hb
  have q2 := levelV_back hP hi' hr.hi hb'
  have b1 := lvT_len hF hi hb
  have b2 := lvT_len hF hi' hb'
  have p1 := parsedP_complete v1
  have p2 := parsedP_complete v2
  have d1 := dash_render v1
  rw [w1] at p1 d1
  rw [w2] at p2
  have h0 : errV (propV sens cats) (rangeV i c i' c' sens.length cats.length) = 0 := by rw [hP, hV]; rfl
  unfold textV
  rw [if_pos h0]
  by_cases e : (i : Int) = i' ∧ c = c'
  · obtain ⟨e1, rfl⟩ := e
    obtain rfl : i = i' := by omega
    simp only [if_true, and_self, Int.toNat_natCast]
    have hcut := cut_miss d1
    have hread : readP (lvT sens cats i c) = some (lvlL sens cats i c, ([], [])) := by
      unfold readP
      rw [hcut]
      simp only [p1, Bool.false_eq_true, if_false]
    obtain ⟨t', d', f', hd', q3⟩ := levelV_form sens cats [] []
    have h31 : ∀ m, 20100 ≤ m → cpJ PR m 56 [rtA (lvlL sens cats i c) ([], []), strsD z sens, strsD z' cats] = some (rgE i c i c 0) := fun m hm => by
      have := e56 (n := m) hm z z' .nil .nil hF (lvlL sens cats i c).1 [] (lvlL sens cats i c).2 [] (lvlL_few _ _ _ _) (by simp) i c 0 hr.lo q1 t' d' f' hd' q3
      simpa [rangeRV] using this
    exact e26g (n := n) (by omega) z z' hF (lvT sens cats i c) (by omega) (by rw [hcut]; exact b1) (by rw [hcut]; simp) hP hread (h31 (n - 1) (by omega))
  · rw [if_neg e]
    simp only [Int.toNat_natCast]
    have hcut := cut_hit (b := lvT sens cats i' c') d1
    have hread : readP (lvT sens cats i c ++ 45 :: lvT sens cats i' c') = some (lvlL sens cats i c, lvlL sens cats i' c') := by
      unfold readP
      rw [hcut]
      simp only [p1, p2, if_true]
    have hne : ¬ ((lvlL sens cats i' c').1 = [] ∧ (lvlL sens cats i' c').2 = []) := fun h => (wordP_iff.1 v2.1).2 h.1
    have h31 : ∀ m, 20100 ≤ m → cpJ PR m 56 [rtA (lvlL sens cats i c) (lvlL sens cats i' c'), strsD z sens, strsD z' cats] = some (rgE i c i' c' 0) := fun m hm => by
      have := e56 (n := m) hm z z' .nil .nil hF (lvlL sens cats i c).1 (lvlL sens cats i' c').1 (lvlL sens cats i c).2 (lvlL sens cats i' c').2 (lvlL_few _ _ _ _) (lvlL_few _ _ _ _) i c 0 hr.lo q1 i' c' 0 hr.hi q2
      simpa only [rangeRV, ne_eq, not_true_eq_false, if_false, if_neg hne, hdom, if_true] using this
    exact e26g (n := n) (by omega) z z' hF (lvT sens cats i c ++ 45 :: lvT sens cats i' c') (by simp; omega) (by rw [hcut]; exact b1) (by rw [hcut]; exact b2) hP hread (h31 (n - 1) (by omega))
def parseC (p : PolV) (s : Bs) (r : LvV × LvV × Int) : CtxV × Int :=
  if (partsV s).length = 4 then
    (fun x : Int × Int × Int => if okI x = true then (if r.2.2 = 0 then (if checkC p ⟨x.1, x.2.1, x.2.2, r.1, r.2.1⟩ = 0 then (⟨x.1, x.2.1, x.2.2, r.1, r.2.1⟩, 0) else (CtxV.z, checkC p ⟨x.1, x.2.1, x.2.2, r.1, r.2.1⟩)) else (CtxV.z, r.2.2)) else (CtxV.z, 11))
      (namedI p ((partsV s).getD 0 []) ((partsV s).getD 1 []) ((partsV s).getD 2 []))
  else (CtxV.z, 9)
theorem okI_iff {x : Int × Int × Int} : okI x = true ↔ ¬ x.1 < 0 ∧ ¬ x.2.1 < 0 ∧ ¬ x.2.2 < 0 := by
  simp only [okI, Bool.and_eq_true, decide_eq_true_eq]; omega
theorem get_D {l : List Bs} {i : Nat} (h : i < l.length) : l[i]? = some (l.getD i []) := by
  obtain ⟨x, hx⟩ := get_some h
  rw [List.getD_eq_getElem?_getD, hx]; rfl
section
variable {n : Nat} (hn : 1100000 ≤ n) (p : PolV) (g : Good' p) (s : Bs) (hs : s.length ≤ 1000000) (r : LvV × LvV × Int)
include hn g hs
theorem e20 (hr : (partsV s).length = 4 → LPar p.sens.l p.cats.l ((partsV s).getD 3 []) r) : cpJ PR n 20 [p.d, .str s] = some (.tup [(parseC p s r).1.d, .int .i64 (parseC p s r).2]) := by
  obtain ⟨n, rfl⟩ : ∃ m, n = m + 1 := ⟨n - 1, by omega⟩
  obtain ⟨z, h1⟩ := e46 (n := n) s hs (by omega)
  rw [u20]
  unfold parseC
  by_cases h4 : (partsV s).length = 4
  · have hR : cpJ PR n 26 [.str ((partsV s).getD 3 []), strs p.sens, strs p.cats] = some (.tup [rngA r.1 r.2.1, .int .i64 r.2.2]) := hr h4 n p.sens.z p.cats.z (by omega)
    rw [if_pos h4]
    rw [decide_eq_true h4] at h1
    have g0 := get_D (l := partsV s) (i := 0) (by omega)
    have g1 := get_D (l := partsV s) (i := 1) (by omega)
    have g2 := get_D (l := partsV s) (i := 2) (by omega)
    have g3 := get_D (l := partsV s) (i := 3) (by omega)
    generalize (partsV s).getD 0 [] = a at *
    generalize (partsV s).getD 1 [] = b at *
    generalize (partsV s).getD 2 [] = c at *
    generalize (partsV s).getD 3 [] = d at *
    have k1 := e47 (n := n) (by omega) p g.small a
    have k2 := e48 (n := n) (by omega) p g.small b
    have k3 := e49 (n := n) (by omega) p g.small c
    change _ = some (DVal.int .i64 (namedI p a b c).1) at k1
    change _ = some (DVal.int .i64 (namedI p a b c).2.1) at k2
    change _ = some (DVal.int .i64 (namedI p a b c).2.2) at k3
    generalize namedI p a b c = x at *
    obtain ⟨u, ro, t⟩ := x
    obtain ⟨lo, hi, f⟩ := r
    simp only at *
    have k4 : cpJ PR n 13 [p.d, ctxA u ro t lo hi] = some (.int .i64 (checkC p ⟨u, ro, t, lo, hi⟩)) := e13 (n := n) (by omega) p ⟨u, ro, t, lo, hi⟩
    by_cases hok : okI (u, ro, t) = true
    · rw [if_pos hok]
      obtain ⟨o1, o2, o3⟩ := okI_iff.1 hok
      simp only at o1 o2 o3
      by_cases hf : f = 0
      · subst hf
        rw [if_pos rfl]
        by_cases hc : checkC p ⟨u, ro, t, lo, hi⟩ = 0
        · rw [if_pos hc]
          rw [hc] at k4
          simp -implicitDefEqProofs [D20, h1, g0, g1, g2, g3, k1, k2, k3, k4, o1, o2, o3, hR]
          rfl
        · rw [if_neg hc]
          have hc' : (checkC p ⟨u, ro, t, lo, hi⟩ != 0) = true := by simpa using hc
          simp -implicitDefEqProofs [D20, h1, g0, g1, g2, g3, k1, k2, k3, k4, o1, o2, o3, hR, hc]
          rfl
      · rw [if_neg hf]
        simp -implicitDefEqProofs [D20, h1, g0, g1, g2, g3, k1, k2, k3, o1, o2, o3, hR, hf]
        rfl
    · rw [if_neg hok]
      have hok' : u < 0 ∨ (¬ u < 0 ∧ ro < 0) ∨ (¬ u < 0 ∧ ¬ ro < 0 ∧ t < 0) := by
        have : ¬ (¬ u < 0 ∧ ¬ ro < 0 ∧ ¬ t < 0) := fun h => hok (okI_iff.2 h)
        omega
      rcases hok' with o1 | ⟨o1, o2⟩ | ⟨o1, o2, o3⟩
      · simp -implicitDefEqProofs [D20, h1, g0, g1, g2, k1, k2, k3, o1]
        rfl
      · simp -implicitDefEqProofs [D20, h1, g0, g1, g2, k1, k2, k3, o1, o2]
        rfl
      · simp -implicitDefEqProofs [D20, h1, g0, g1, g2, k1, k2, k3, o1, o2, o3]
        rfl
  · rw [if_neg h4]
    rw [decide_eq_false h4] at h1
    simp -implicitDefEqProofs [D20, h1]
    rfl
theorem e21 (hr : (partsV s).length = 4 → LParR p.sens.l p.cats.l ((partsV s).getD 3 []) r) : cpJ PR n 21 [p.d, .str s] = some (.tup [(parseC p s r).1.d, .int .i64 (parseC p s r).2]) := by
  obtain ⟨n, rfl⟩ : ∃ m, n = m + 1 := ⟨n - 1, by omega⟩
  obtain ⟨z, h1⟩ := e50 (n := n) s hs (by omega)
  rw [u21]
  unfold parseC
  by_cases h4 : (partsV s).length = 4
  · have hR : cpJ PR n 52 [.str ((partsV s).getD 3 []), strs p.sens, strs p.cats] = some (.tup [rngA r.1 r.2.1, .int .i64 r.2.2]) := hr h4 n p.sens.z p.cats.z (by omega)
    rw [if_pos h4]
    rw [decide_eq_true h4] at h1
    have g0 := get_D (l := partsV s) (i := 0) (by omega)
    have g1 := get_D (l := partsV s) (i := 1) (by omega)
    have g2 := get_D (l := partsV s) (i := 2) (by omega)
    have g3 := get_D (l := partsV s) (i := 3) (by omega)
    generalize (partsV s).getD 0 [] = a at *
    generalize (partsV s).getD 1 [] = b at *
    generalize (partsV s).getD 2 [] = c at *
    generalize (partsV s).getD 3 [] = d at *
    have k1 := e51 (n := n) (by omega) p g.small a b c
    generalize namedI p a b c = x at *
    obtain ⟨u, ro, t⟩ := x
    obtain ⟨lo, hi, f⟩ := r
    simp only at *
    have k4 : cpJ PR n 14 [p.d, ctxA u ro t lo hi] = some (.int .i64 (checkC p ⟨u, ro, t, lo, hi⟩)) := e14 (n := n) (by omega) p ⟨u, ro, t, lo, hi⟩
    by_cases hok : okI (u, ro, t) = true
    · rw [if_pos hok]
      obtain ⟨o1, o2, o3⟩ := okI_iff.1 hok
      simp only at o1 o2 o3
      rw [hok, numI_nn o1, numI_nn o2, numI_nn o3] at k1
      by_cases hf : f = 0
      · subst hf
        rw [if_pos rfl]
        by_cases hc : checkC p ⟨u, ro, t, lo, hi⟩ = 0
        · rw [if_pos hc]
          rw [hc] at k4
          simp -implicitDefEqProofs [D21, h1, g0, g1, g2, g3, k1, k4, hR]
          rfl
        · rw [if_neg hc]
          simp -implicitDefEqProofs [D21, h1, g0, g1, g2, g3, k1, k4, hR, hc]
          rfl
      · rw [if_neg hf]
        simp -implicitDefEqProofs [D21, h1, g0, g1, g2, g3, k1, hR, hf]
        rfl
    · rw [if_neg hok]
      have hok' : okI (u, ro, t) = false := by simpa using hok
      rw [hok'] at k1
      simp -implicitDefEqProofs [D21, h1, g0, g1, g2, k1]
      rfl
  · rw [if_neg h4]
    rw [decide_eq_false h4] at h1
    simp -implicitDefEqProofs [D21, h1]
    rfl
end
def textC (p : PolV) (c : CtxV) : Bs :=
  if checkC p c = 0 then ((at' p.users.l c.user).map UserV.name).getD [] ++ 58 :: (((at' p.roles.l c.role).map RoleV.name).getD [] ++ 58 :: (((at' p.types.l c.type).map TypeV.name).getD [] ++ 58 :: textV p.sens.l p.cats.l c.lo.s c.lo.c c.hi.s c.hi.c)) else []
theorem okName_len {s : Bs} (h : okName s = true) : s.length ≤ 32 := by
  unfold okName at h
  simp only [Bool.and_eq_true, decide_eq_true_eq] at h
  exact h.1
structure CtxOk (p : PolV) (c : CtxV) where
  u : UserV
  r : RoleV
  t : TypeV
  iu : Nat
  ir : Nat
  it : Nat
  eu : c.user = iu
  er : c.role = ir
  et : c.type = it
  hu : p.users.l[iu]? = some u
  hr : p.roles.l[ir]? = some r
  ht : p.types.l[it]? = some t
  rng : rngV p c.lo c.hi = true
theorem at_get {α : Type} {l : List α} {i : Int} {x : α} (h : at' l i = some x) : ∃ j : Nat, i = j ∧ l[j]? = some x := by
  unfold at' at h
  split at h
  · exact ⟨i.toNat, by omega, h⟩
  · cases h
theorem check_ok {p : PolV} {c : CtxV} (h : checkC p c = 0) : Nonempty (CtxOk p c) := by
  unfold checkC at h
  split at h
  · rename_i u r t h1 h2 h3
    obtain ⟨i1, e1, g1⟩ := at_get h1
    obtain ⟨i2, e2, g2⟩ := at_get h2
    obtain ⟨i3, e3, g3⟩ := at_get h3
    split at h
    · rename_i hr
      exact ⟨⟨u, r, t, i1, i2, i3, e1, e2, e3, g1, g2, g3, hr⟩⟩
    · simp at h
  · simp at h
end Go.Proofs.YthpccimmmfonjaaGreatDoor
namespace Go.Proofs.YthpccimmmfonjaaGreatDoor
set_option linter.unusedVariables false
set_option linter.unusedSimpArgs false
set_option maxRecDepth 20000
set_option maxHeartbeats 4000000
open Go
theorem textV_len {sens cats : List Bs} (L : Lev sens cats) (lo hi : LvV) (hV : rangeV lo.s lo.c hi.s hi.c sens.length cats.length = true) : (textV sens cats lo.s lo.c hi.s hi.c).length ≤ 50000 := by
  obtain ⟨hF, hP⟩ := L
  obtain ⟨s, c, hc⟩ := lo
  obtain ⟨s', c', hc'⟩ := hi
  simp only at hV ⊢
  obtain ⟨⟨i, i', rfl, rfl, hi, hi'⟩, hb, hb'⟩ := range_facts (⟨hc, hc'⟩ : Rok c c') hV
  have b1 := lvT_len hF hi hb
  have b2 := lvT_len hF hi' hb'
  unfold textV
  split
  · simp only [Int.toNat_natCast]
    split
    · omega
    · simp; omega
  · simp
theorem Good'.uname {p : PolV} (g : Good' p) {u : UserV} {i : Nat} (h : p.users.l[i]? = some u) : okName u.name = true :=
  g.users.ok _ (List.mem_map.2 ⟨u, List.mem_of_getElem? h, rfl⟩)
theorem Good'.rname {p : PolV} (g : Good' p) {u : RoleV} {i : Nat} (h : p.roles.l[i]? = some u) : okName u.name = true :=
  g.roles.ok _ (List.mem_map.2 ⟨u, List.mem_of_getElem? h, rfl⟩)
theorem Good'.tname {p : PolV} (g : Good' p) {u : TypeV} {i : Nat} (h : p.types.l[i]? = some u) : okName u.name = true :=
  g.types.ok _ (List.mem_flatMap.2 ⟨u, List.mem_of_getElem? h, by simp⟩)
theorem textC_ok {p : PolV} {c : CtxV} (h : checkC p c = 0) (X : CtxOk p c) : textC p c = X.u.name ++ 58 :: (X.r.name ++ 58 :: (X.t.name ++ 58 :: textV p.sens.l p.cats.l c.lo.s c.lo.c c.hi.s c.hi.c)) := by
  have a1 : at' p.users.l c.user = some X.u := by rw [X.eu, at', if_pos (by omega), Int.toNat_natCast, X.hu]
  have a2 : at' p.roles.l c.role = some X.r := by rw [X.er, at', if_pos (by omega), Int.toNat_natCast, X.hr]
  have a3 : at' p.types.l c.type = some X.t := by rw [X.et, at', if_pos (by omega), Int.toNat_natCast, X.ht]
  unfold textC
  rw [if_pos h, a1, a2, a3]
  rfl
section
variable {n : Nat} (hn : 30000 ≤ n) (p : PolV) (g : Good' p) (c : CtxV)
include hn g
theorem e18 : cpJ PR n 18 [p.d, c.d] = some (.tup [.str (textC p c), .int .i64 (checkC p c)]) := by
  obtain ⟨n, rfl⟩ : ∃ m, n = m + 1 := ⟨n - 1, by omega⟩
  have h1 := e13 (n := n) (by omega) p c
  rw [u18]
  by_cases h : checkC p c = 0
  · obtain ⟨X⟩ := check_ok h
    rw [textC_ok h X]
    rw [h] at h1 ⊢
    have L := g.lev
    have hV : rangeV c.lo.s c.lo.c c.hi.s c.hi.c p.sens.l.length p.cats.l.length = true := X.rng
    have h2 : cpJ PR n 27 [rngD c.lo c.hi, strs p.sens, strs p.cats] = some (.tup [.str (textV p.sens.l p.cats.l c.lo.s c.lo.c c.hi.s c.hi.c), .int .i64 0]) := by
      have := e27 (n := n) (by omega) p.sens.z p.cats.z L.few c.lo.s c.lo.c c.hi.s c.hi.c ⟨c.lo.lt, c.hi.lt⟩
      rw [L.prop, hV] at this
      exact this
    have b1 := okName_len (g.uname X.hu)
    have b2 := okName_len (g.rname X.hr)
    have b3 := okName_len (g.tname X.ht)
    have b4 := textV_len L c.lo c.hi hV
    have x1 := X.hu
    have x2 := X.hr
    have x3 := X.ht
    have y1 := X.eu
    have y2 := X.er
    have y3 := X.et
    generalize X.u = u at *
    generalize X.r = r at *
    generalize X.t = t at *
    generalize textV p.sens.l p.cats.l c.lo.s c.lo.c c.hi.s c.hi.c = w at *
    obtain ⟨w1, hw1⟩ : ∃ x, x = u.name ++ [58] := ⟨_, rfl⟩
    obtain ⟨w2, hw2⟩ : ∃ x, x = w1 ++ r.name := ⟨_, rfl⟩
    obtain ⟨w3, hw3⟩ : ∃ x, x = w2 ++ [58] := ⟨_, rfl⟩
    obtain ⟨w4, hw4⟩ : ∃ x, x = w3 ++ t.name := ⟨_, rfl⟩
    obtain ⟨w5, hw5⟩ : ∃ x, x = w4 ++ [58] := ⟨_, rfl⟩
    have l1 : w1.length ≤ 33 := by rw [hw1]; simp; omega
    have l2 : w2.length ≤ 65 := by rw [hw2]; simp; omega
    have l3 : w3.length ≤ 66 := by rw [hw3]; simp; omega
    have l4 : w4.length ≤ 98 := by rw [hw4]; simp; omega
    have l5 : w5.length ≤ 99 := by rw [hw5]; simp; omega
    have c1 : binStr .add u.name [58] = some (.str w1) := by rw [hw1]; exact addS (by simp; omega)
    have c2 : binStr .add w1 r.name = some (.str w2) := by rw [hw2]; exact addS (by omega)
    have c3 : binStr .add w2 [58] = some (.str w3) := by rw [hw3]; exact addS (by simp; omega)
    have c4 : binStr .add w3 t.name = some (.str w4) := by rw [hw4]; exact addS (by omega)
    have c5 : binStr .add w4 [58] = some (.str w5) := by rw [hw5]; exact addS (by simp; omega)
    have c6 : binStr .add w5 w = some (.str (u.name ++ 58 :: (r.name ++ 58 :: (t.name ++ 58 :: w)))) := by
      rw [addS (by omega), hw5, hw4, hw3, hw2, hw1]; simp
    simp -implicitDefEqProofs [-binStr.eq_1, D18, h1, h2, x1, x2, x3, y1, y2, y3, c1, c2, c3, c4, c5, c6]
  · have e : textC p c = [] := by unfold textC; rw [if_neg h]
    rw [e]
    have h' : (checkC p c != 0) = true := by simpa using h
    simp -implicitDefEqProofs [D18, h1, h]
theorem e19 : cpJ PR n 19 [p.d, c.d] = some (.tup [.str (textC p c), .int .i64 (checkC p c)]) := by
  obtain ⟨n, rfl⟩ : ∃ m, n = m + 1 := ⟨n - 1, by omega⟩
  have h1 := e14 (n := n) (by omega) p c
  rw [u19]
  by_cases h : checkC p c = 0
  · obtain ⟨X⟩ := check_ok h
    rw [textC_ok h X]
    rw [h] at h1 ⊢
    have L := g.lev
    have hV : rangeV c.lo.s c.lo.c c.hi.s c.hi.c p.sens.l.length p.cats.l.length = true := X.rng
    have h2 : cpJ PR n 45 [rngD c.lo c.hi, strs p.sens, strs p.cats] = some (.tup [.str (textV p.sens.l p.cats.l c.lo.s c.lo.c c.hi.s c.hi.c), .int .i64 0]) := by
      have := e45 (n := n) (by omega) p.sens.z p.cats.z L.few c.lo.s c.lo.c c.hi.s c.hi.c ⟨c.lo.lt, c.hi.lt⟩
      rw [L.prop, hV] at this
      exact this
    have b1 := okName_len (g.uname X.hu)
    have b2 := okName_len (g.rname X.hr)
    have b3 := okName_len (g.tname X.ht)
    have b4 := textV_len L c.lo c.hi hV
    have x1 := X.hu
    have x2 := X.hr
    have x3 := X.ht
    have y1 := X.eu
    have y2 := X.er
    have y3 := X.et
    generalize X.u = u at *
    generalize X.r = r at *
    generalize X.t = t at *
    generalize textV p.sens.l p.cats.l c.lo.s c.lo.c c.hi.s c.hi.c = w at *
    obtain ⟨w1, hw1⟩ : ∃ x, x = u.name ++ [58] := ⟨_, rfl⟩
    obtain ⟨w2, hw2⟩ : ∃ x, x = w1 ++ r.name := ⟨_, rfl⟩
    obtain ⟨w3, hw3⟩ : ∃ x, x = w2 ++ [58] := ⟨_, rfl⟩
    obtain ⟨w4, hw4⟩ : ∃ x, x = w3 ++ t.name := ⟨_, rfl⟩
    obtain ⟨w5, hw5⟩ : ∃ x, x = w4 ++ [58] := ⟨_, rfl⟩
    have l1 : w1.length ≤ 33 := by rw [hw1]; simp; omega
    have l2 : w2.length ≤ 65 := by rw [hw2]; simp; omega
    have l3 : w3.length ≤ 66 := by rw [hw3]; simp; omega
    have l4 : w4.length ≤ 98 := by rw [hw4]; simp; omega
    have l5 : w5.length ≤ 99 := by rw [hw5]; simp; omega
    have c1 : binStr .add u.name [58] = some (.str w1) := by rw [hw1]; exact addS (by simp; omega)
    have c2 : binStr .add w1 r.name = some (.str w2) := by rw [hw2]; exact addS (by omega)
    have c3 : binStr .add w2 [58] = some (.str w3) := by rw [hw3]; exact addS (by simp; omega)
    have c4 : binStr .add w3 t.name = some (.str w4) := by rw [hw4]; exact addS (by omega)
    have c5 : binStr .add w4 [58] = some (.str w5) := by rw [hw5]; exact addS (by simp; omega)
    have c6 : binStr .add w5 w = some (.str (u.name ++ 58 :: (r.name ++ 58 :: (t.name ++ 58 :: w)))) := by
      rw [addS (by omega), hw5, hw4, hw3, hw2, hw1]; simp
    simp -implicitDefEqProofs [-binStr.eq_1, D19, h1, h2, x1, x2, x3, y1, y2, y3, c1, c2, c3, c4, c5, c6]
  · have e : textC p c = [] := by unfold textC; rw [if_neg h]
    rw [e]
    simp -implicitDefEqProofs [D19, h1, h]
end
theorem cutK_mem {c : UInt8} : ∀ {k : Nat} {s q : Bs}, q ∈ cutK c k s → q.length ≤ s.length
  | 0, s, q, h => by simp only [cutK, List.mem_singleton] at h; rw [h]; omega
  | k + 1, s, q, h => by
    rcases cut_exists c s with h1 | ⟨a, b, rfl, h1⟩
    · rw [cutK_miss h1, List.mem_singleton] at h
      rw [h]; omega
    · rw [cutK_hit h1, List.mem_cons] at h
      rcases h with rfl | h
      · simp
      · have := cutK_mem h
        simp; omega
theorem range_exR {p : PolV} (g : Good' p) (s : Bs) (hs : s.length ≤ 1000) : ∃ r, ((partsV s).length = 4 → LPar p.sens.l p.cats.l ((partsV s).getD 3 []) r) ∧ ((partsV s).length = 4 → LParR p.sens.l p.cats.l ((partsV s).getD 3 []) r) := by
  by_cases h4 : (partsV s).length = 4
  · have hm : (partsV s).getD 3 [] ∈ partsV s := List.mem_of_getElem? (get_D (by omega))
    obtain ⟨r, h1, h2, -⟩ := lpar_exR g.lev ((partsV s).getD 3 []) (by have := cutK_mem hm; omega)
    exact ⟨r, fun _ => h1, fun _ => h2⟩
  · exact ⟨(LvV.z, LvV.z, 0), fun h => absurd h h4, fun h => absurd h h4⟩
theorem build_ctx (C : CallP) : POp.sem C [] (.build [.int .i64 0, .int .i64 0, .int .i64 0, .int .i64 0, .int .u64 0, .int .i64 0, .int .u64 0] []) = some CtxV.z.d := rfl
theorem ctx_eq (a : CtxV) : eqaSem false [.i .i64, .i .i64, .i .i64, .i .i64, .i .u64, .i .i64, .i .u64] [a.d, a.d] = some (.bool true) := by
  obtain ⟨q, h1, h2⟩ := ctx_beq a a
  rw [h1, h2.2 rfl]
section
variable {n d : Nat} (hn : maxLen + 2000 + d ≤ n) (aw : cpJ PR n 12 [] = some (.bool true)) {p : PolV} (hf : PFit d p) (c : CtxV) (s : Bs)
include hn aw hf
theorem e4 : cpJ PR (n + 1) 4 [p.d, c.d, .str s] = some (.bool true) := by
  have hml : maxLen ≥ 9000000 := by unfold maxLen; omega
  obtain ⟨q, h1, hq⟩ := e11 hn hf
  rw [u4]
  cases q with
  | false => simp -implicitDefEqProofs [D4, h1, aw]
  | true =>
    have g := hq rfl
    by_cases hl : (400 : Int) < s.length
    · simp -implicitDefEqProofs [D4, h1, hl, aw]
    · have hs : s.length ≤ 400 := by omega
      obtain ⟨r, r1, r2⟩ := range_exR g s (by omega)
      have h2 := e18 (n := n) (by omega) p g c
      have h3 := e19 (n := n) (by omega) p g c
      have h4 := e20 (n := n) (by omega) p g s (by omega) r r1
      have h5 := e21 (n := n) (by omega) p g s (by omega) r r2
      have h6 := ctx_eq (parseC p s r).1
      simp -implicitDefEqProofs [D4, h1, hl, h2, h3, h4, h5, h6, aw, -eqaSem.eq_1]
end
end Go.Proofs.YthpccimmmfonjaaGreatDoor
namespace Go.Proofs.YthpccimmmfonjaaGreatDoor
set_option linter.unusedVariables false
set_option linter.unusedSimpArgs false
set_option maxRecDepth 20000
set_option maxHeartbeats 4000000
open Go
def ctxAt (u r t : Nat) (d : LvV) : CtxV := ⟨u, r, t, d, d⟩
def allT (p : PolV) (u r : Nat) (d : LvV) : Nat → Nat → List CtxV
  | _, 0 => []
  | t, k + 1 => (if checkC p (ctxAt u r t d) = 0 then [ctxAt u r t d] else []) ++ allT p u r d (t + 1) k
def allR (p : PolV) (u : Nat) (d : LvV) : Nat → Nat → List CtxV
  | _, 0 => []
  | r, k + 1 => allT p u r d 0 p.types.l.length ++ allR p u d (r + 1) k
def allU (p : PolV) : Nat → List UserV → List CtxV
  | _, [] => []
  | u, x :: l => allR p u x.dflt 0 p.roles.l.length ++ allU p (u + 1) l
def allC (p : PolV) : List CtxV := allU p 0 p.users.l
theorem allT_len {p : PolV} {u r : Nat} {d : LvV} : ∀ {k t : Nat}, (allT p u r d t k).length ≤ k
  | 0, t => by simp [allT]
  | k + 1, t => by
    have := allT_len (p := p) (u := u) (r := r) (d := d) (k := k) (t := t + 1)
    rw [allT, List.length_append]
    split <;> simp <;> omega
theorem allR_len {p : PolV} (hp : SmallP p) {u : Nat} {d : LvV} : ∀ {k r : Nat}, (allR p u d r k).length ≤ 12 * k
  | 0, r => by simp [allR]
  | k + 1, r => by
    have h1 := allR_len hp (u := u) (d := d) (k := k) (r := r + 1)
    have h2 := allT_len (p := p) (u := u) (r := r) (d := d) (k := p.types.l.length) (t := 0)
    have h3 := hp.types
    rw [allR, List.length_append]
    omega
abbrev crows (l : List CtxV) : List (List DVal) := l.map CtxV.row
theorem own_ctx {σ : Sto} {v : DVal} {L : List CtxV} (c : CtxV) (h : Own σ 7 v (crows L)) (hl : L.length ≤ 100000) : ∃ v' σ', app2Sem false 7 σ [v, .slice false 1 7 [c.row]] = some (v', σ') ∧ Own σ' 7 v' (crows (L ++ [c])) := by
  obtain ⟨v', σ', h1, h2⟩ := own_one (own := 1) (r := c.row) h (by simp; omega)
  exact ⟨v', σ', h1, by simpa [crows] using h2⟩
theorem bslice_ctx (C : CallP) (c : CtxV) : POp.sem C [c.d] (.bslice false 7) = some (.slice false 1 7 [c.row]) := by
  have h : sealCells c.d.cells = some c.row := rfl
  have h2 : c.d.cells.length = 7 := rfl
  simp [POp.sem, sealElems, h, h2]
section
variable {n : Nat} (hn : 2000 ≤ n) {p : PolV} (hp : SmallP p)
include hn hp
theorem l22_0 (u r : Nat) (d : LvV) (x : DVal) (hx : x = .int .i64 p.types.l.length) : ∀ (k i m : Nat) (L : List CtxV) (v : DVal) (σ : Sto), i + k = p.types.l.length → k < m → Own σ 7 v (crows L) → L.length + k ≤ 10000 → r + 1 ≤ 100 →
    ∃ v' σ', iterJ 2 (L22_0 (cpJ PR n) (ciJ PR n) n p.d (.int .i64 u) d.d (.int .i64 r) x) m [.int .i64 i, v] σ = some (.next 1 [.int .i64 ((r + 1 : Nat) : Int), v'] σ') ∧ Own σ' 7 v' (crows (L ++ allT p u r d i k)) := by
  subst hx
  intro k
  induction k with
  | zero =>
    intro i m L v σ hi hm hv hL hr
    obtain ⟨m, rfl⟩ : ∃ j, m = j + 1 := ⟨m - 1, by omega⟩
    have hi' : ¬ ((i : Int) < p.types.l.length) := by omega
    have hwr := wrap_succ (i := r) (by omega)
    refine ⟨v, σ, ?_, by simpa [allT] using hv⟩
    refine iterJ_out ?_ (by decide)
    simp -implicitDefEqProofs [L22_0, B22_0, hi']
    exact hwr
  | succ k ih =>
    intro i m L v σ hi hm hv hL hr
    obtain ⟨m, rfl⟩ : ∃ j, m = j + 1 := ⟨m - 1, by omega⟩
    have hlen := hp.types
    have hi' : ((i : Int) < p.types.l.length) := by omega
    have hwr := wrap_i (by omega : i < p.types.l.length) (by unfold maxLen; omega)
    have h1 : cpJ PR n 13 [p.d, ctxA u r i d d] = some (.int .i64 (checkC p (ctxAt u r i d))) := e13 (n := n) (by omega) p (ctxAt u r i d)
    rw [allT]
    by_cases hc : checkC p (ctxAt u r i d) = 0
    · rw [if_pos hc]
      rw [hc] at h1
      obtain ⟨v1, σ1, h2, h3⟩ := own_ctx (ctxAt u r i d) hv (by omega)
      have h4 : POp.sem (cpJ PR n) [ctxA u r i d d] (.bslice false 7) = some (.slice false 1 7 [(ctxAt u r i d).row]) := bslice_ctx _ (ctxAt u r i d)
      obtain ⟨v', σ', h5, h6⟩ := ih (i + 1) m (L ++ [ctxAt u r i d]) v1 σ1 (by omega) (by omega) h3 (by simp; omega) hr
      refine ⟨v', σ', ?_, by simpa using h6⟩
      rw [← h5]
      refine iterJ_next' ?_
      simp -implicitDefEqProofs [L22_0, B22_0, hi', hwr, h1, h2, h4, LvV.d, LvV.row, -POp.sem.eq_18]
    · rw [if_neg hc]
      obtain ⟨v', σ', h5, h6⟩ := ih (i + 1) m L v σ (by omega) (by omega) hv (by omega) hr
      refine ⟨v', σ', ?_, by simpa using h6⟩
      rw [← h5]
      refine iterJ_next' ?_
      simp -implicitDefEqProofs [L22_0, B22_0, hi', hwr, h1, hc, LvV.d, LvV.row]
theorem l22_1 (u : Nat) (d : LvV) (x : DVal) (hx : x = .int .i64 p.roles.l.length) (hu : u + 1 ≤ 100) (hm0 : 1000 ≤ n) : ∀ (k i m : Nat) (L : List CtxV) (v : DVal) (σ : Sto), i + k = p.roles.l.length → k < m → Own σ 7 v (crows L) → L.length + 12 * k ≤ 5000 →
    ∃ v' σ', iterJ 1 (L22_1 (cpJ PR n) (ciJ PR n) n p.d (.int .i64 u) d.d x) m [.int .i64 i, v] σ = some (.next 0 [.int .i64 ((u + 1 : Nat) : Int), v'] σ') ∧ Own σ' 7 v' (crows (L ++ allR p u d i k)) := by
  subst hx
  intro k
  induction k with
  | zero =>
    intro i m L v σ hi hm hv hL
    obtain ⟨m, rfl⟩ : ∃ j, m = j + 1 := ⟨m - 1, by omega⟩
    have hi' : ¬ ((i : Int) < p.roles.l.length) := by omega
    have hwr := wrap_succ (i := u) (by omega)
    refine ⟨v, σ, ?_, by simpa [allR] using hv⟩
    refine iterJ_out ?_ (by decide)
    simp -implicitDefEqProofs [L22_1, B22_1, hi']
    exact hwr
  | succ k ih =>
    intro i m L v σ hi hm hv hL
    obtain ⟨m, rfl⟩ : ∃ j, m = j + 1 := ⟨m - 1, by omega⟩
    have hlen := hp.roles
    have hlen2 := hp.types
    have hi' : ((i : Int) < p.roles.l.length) := by omega
    obtain ⟨v1, σ1, h1, h2⟩ := l22_0 hn hp u i d (.int .i64 p.types.l.length) rfl p.types.l.length 0 n L v σ (by omega) (by omega) hv (by omega) (by omega)
    have hla := allT_len (p := p) (u := u) (r := i) (d := d) (k := p.types.l.length) (t := 0)
    obtain ⟨v', σ', h5, h6⟩ := ih (i + 1) m (L ++ allT p u i d 0 p.types.l.length) v1 σ1 (by omega) (by omega) h2 (by rw [List.length_append]; omega)
    refine ⟨v', σ', ?_, by rw [allR]; simpa using h6⟩
    rw [← h5]
    refine iterJ_next' ?_
    simp only [Int.natCast_zero] at h1
    simp -implicitDefEqProofs [L22_1, B22_1, hi', h1]
theorem l22_2 (x : DVal) (hx : x = .int .i64 p.users.l.length) : ∀ (k i m : Nat) (L : List CtxV) (v : DVal) (σ : Sto), i + k = p.users.l.length → k < m → Own σ 7 v (crows L) → L.length + 96 * k ≤ 1000 →
    ∃ v' σ', iterJ 0 (L22_2 (cpJ PR n) (ciJ PR n) n p.d x) m [.int .i64 i, v] σ = some (.done v' σ') ∧ Own σ' 7 v' (crows (L ++ allU p i (p.users.l.drop i))) := by
  subst hx
  intro k
  induction k with
  | zero =>
    intro i m L v σ hi hm hv hL
    obtain ⟨m, rfl⟩ : ∃ j, m = j + 1 := ⟨m - 1, by omega⟩
    have hi' : ¬ ((i : Int) < p.users.l.length) := by omega
    refine ⟨v, σ, ?_, by rw [List.drop_eq_nil_of_le (by omega)]; simpa [allU] using hv⟩
    refine iterJ_done ?_
    simp -implicitDefEqProofs [L22_2, B22_2, hi', own_okVal hv]
  | succ k ih =>
    intro i m L v σ hi hm hv hL
    obtain ⟨m, rfl⟩ : ∃ j, m = j + 1 := ⟨m - 1, by omega⟩
    have hlen := hp.users
    have hlen2 := hp.roles
    have hi' : ((i : Int) < p.users.l.length) := by omega
    obtain ⟨y, hy⟩ := get_some (by omega : i < p.users.l.length)
    obtain ⟨v1, σ1, h1, h2⟩ := l22_1 hn hp i y.dflt (.int .i64 p.roles.l.length) rfl (by omega) (by omega) p.roles.l.length 0 n L v σ (by omega) (by omega) hv (by omega)
    have hla := allR_len hp (u := i) (d := y.dflt) (k := p.roles.l.length) (r := 0)
    obtain ⟨v', σ', h5, h6⟩ := ih (i + 1) m (L ++ allR p i y.dflt 0 p.roles.l.length) v1 σ1 (by omega) (by omega) h2 (by rw [List.length_append]; omega)
    refine ⟨v', σ', ?_, by rw [drop_get hy, allU]; simpa using h6⟩
    rw [← h5]
    refine iterJ_next' ?_
    simp only [Int.natCast_zero] at h1
    have h7 : jwrSem 0 2 [.agg [.int .i64 0, .int .u64 0], y.dflt.d] = some y.dflt.d := LvV_wr y.dflt _ _
    simp -implicitDefEqProofs [L22_2, B22_2, hi', hy, h1]
end
theorem e22 {n : Nat} (hn : 2100 ≤ n) {p : PolV} (hp : SmallP p) : ∃ v, cpJ PR n 22 [p.d] = some v ∧ Fresh 7 v (crows (allC p)) := by
  obtain ⟨n, rfl⟩ : ∃ m, n = m + 1 := ⟨n - 1, by omega⟩
  have hlen := hp.users
  obtain ⟨v, σ, h1, h2⟩ := l22_2 (n := n) (by omega) hp (.int .i64 p.users.l.length) rfl p.users.l.length 0 n [] .nils emptySto (by omega) (by omega) (own_nils _ _) (by simp; omega)
  simp only [Int.natCast_zero, List.nil_append, List.drop_zero] at h1 h2
  obtain ⟨u, h3, h4⟩ := own_back h2
  refine ⟨u, ?_, h4⟩
  rw [u22]
  simp -implicitDefEqProofs [D22, h1, h3]
def initL (s : Bs) : List SidV → CtxV × Bool
  | [] => (CtxV.z, false)
  | x :: l => if x.name = s then (x.ctx, true) else initL s l
def initD (x : CtxV × Bool) : DVal := .tup [x.1.d, .bool x.2]
theorem l24 {n : Nat} (p : PolV) (s : Bs) (hl : p.sids.l.length ≤ 1000) (σ : Sto) (x : DVal) (hx : x = .int .i64 p.sids.l.length) : ∀ (k i m : Nat) (b : DVal), i + k = p.sids.l.length → k < m →
    iterJ 0 (L24_0 (cpJ PR n) (ciJ PR n) n (.str s) (slOf 8 SidV.row p.sids) x) m [.int .i64 i, b, CtxV.z.d] σ = some (.done (initD (initL s (p.sids.l.drop i))) σ) := by
  subst hx
  intro k
  induction k with
  | zero =>
    intro i m b hi hm
    obtain ⟨m, rfl⟩ : ∃ j, m = j + 1 := ⟨m - 1, by omega⟩
    have hi' : ¬ ((i : Int) < p.sids.l.length) := by omega
    rw [List.drop_eq_nil_of_le (by omega)]
    have h1 := build_ctx (cpJ PR n)
    refine iterJ_done ?_
    simp -implicitDefEqProofs [L24_0, B24_0, hi', initL, initD, h1, -POp.sem.eq_17]
  | succ k ih =>
    intro i m b hi hm
    obtain ⟨m, rfl⟩ : ∃ j, m = j + 1 := ⟨m - 1, by omega⟩
    have hi' : ((i : Int) < p.sids.l.length) := by omega
    obtain ⟨y, hy⟩ := get_some (by omega : i < p.sids.l.length)
    have hwr := wrap_i (by omega : i < p.sids.l.length) (by unfold maxLen; omega)
    rw [drop_get hy, initL]
    by_cases hf : y.name = s
    · rw [if_pos hf]
      refine iterJ_done ?_
      simp -implicitDefEqProofs [L24_0, B24_0, hi', hy, hwr, hf, initD]
    · rw [if_neg hf, ← ih (i + 1) m b (by omega) (by omega)]
      refine iterJ_next' ?_
      simp -implicitDefEqProofs [L24_0, B24_0, hi', hy, hwr, hf]
theorem zctx : DVal.agg [.int .i64 0, .int .i64 0, .int .i64 0, .int .i64 0, .int .u64 0, .int .i64 0, .int .u64 0] = CtxV.z.d := rfl
theorem e24 {n : Nat} (hn : 1100 ≤ n) {p : PolV} (hp : SmallP p) (s : Bs) : cpJ PR n 24 [p.d, .str s] = some (initD (initL s p.sids.l)) := by
  obtain ⟨n, rfl⟩ : ∃ m, n = m + 1 := ⟨n - 1, by omega⟩
  have hlen := hp.sids
  have h1 := l24 (n := n) p s (by omega) emptySto (.int .i64 p.sids.l.length) rfl p.sids.l.length 0 n (.bool false) (by omega) (by omega)
  simp only [Int.natCast_zero, List.drop_zero] at h1
  rw [u24]
  simp -implicitDefEqProofs [D24, zctx, h1, initD]
end Go.Proofs.YthpccimmmfonjaaGreatDoor
namespace Go.Proofs.YthpccimmmfonjaaGreatDoor
set_option linter.unusedVariables false
set_option linter.unusedSimpArgs false
set_option maxRecDepth 20000
set_option maxHeartbeats 8000000
open Go
def setL : List Nat → SetV → SetV
  | [], s => s
  | k :: l, s => setL l (withS s k)
abbrev irows (l : List Nat) : List (List DVal) := l.map fun (k : Nat) => [DVal.int .i64 (k : Int)]
theorem l80 {n : Nat} (l : List Nat) (hl : l.length ≤ 1000) (hk : ∀ k ∈ l, k < 256) : ∀ (j i m : Nat) (s : SetV) (σ : Sto), i + j = l.length → j < m → σ.obj 0 = s.d → 0 < σ.nobj →
    ∃ σ', iterJ 0 (L80_0 (cpJ PR n) (ciJ PR n) n (.slice false 1 1 (irows l)) (.obj 0 0)) m [.int .i64 i] σ = some (.done (setL (l.drop i) s).d σ') := by
  intro j
  induction j with
  | zero =>
    intro i m s σ hi hm hs h0
    obtain ⟨m, rfl⟩ : ∃ q, m = q + 1 := ⟨m - 1, by omega⟩
    have hi' : ¬ ((i : Int) < l.length) := by omega
    have h1 : ldOSem σ (some 4) [.obj 0 0] = some (s.d, σ) := by
      rw [ld_obj (some 4) hs h0]; rfl
    refine ⟨σ, iterJ_done ?_⟩
    rw [List.drop_eq_nil_of_le (by omega)]
    simp -implicitDefEqProofs [L80_0, B80_0, hi', h1, setL]
  | succ j ih =>
    intro i m s σ hi hm hs h0
    obtain ⟨m, rfl⟩ : ∃ q, m = q + 1 := ⟨m - 1, by omega⟩
    have hi' : ((i : Int) < l.length) := by omega
    obtain ⟨k, hk0⟩ := get_some (by omega : i < l.length)
    have hkl := hk k (List.mem_of_getElem? hk0)
    have hwr : IntKind.i64.wrap ((i : Int) + 1) = (i : Int) + 1 := wrap_i64 (by omega) (by omega)
    have h1 := ld_arr (σ := σ) (id := 0) (n := 4) (i := k / 64) (f := fun i => .int .u64 (s.w i)) hs h0 (by omega)
    have h2 := idx_arr (id := 0) (j := k / 64) (by omega)
    have h3 := wrap_pow (k := k % 64) (by omega)
    have h4 : ¬ (((k % 64 : Nat) : Int) < 0) := by omega
    have h5 : min (k % 64) 64 = k % 64 := by omega
    have h6 := or_nat (s.w (k / 64)) (2 ^ (k % 64)) (s.lt _) (pow_lt' (Nat.mod_lt _ (by decide)))
    have h7 := st_arr (σ := σ) (id := 0) (n := 4) (i := k / 64) (f := fun i => .int .u64 (s.w i)) (v := .int .u64 ((s.w (k / 64) ||| 2 ^ (k % 64) : Nat) : Int)) hs h0 (by omega) rfl rfl
    have e : arrD 4 (upd (fun i => DVal.int .u64 (s.w i)) (k / 64) (.int .u64 ((s.w (k / 64) ||| 2 ^ (k % 64) : Nat) : Int))) = (withS s k).d := by
      rw [SetV.d_arr]
      congr 1
      funext i
      simp only [upd, withS]
      split <;> rfl
    rw [e] at h7
    obtain ⟨σ', h8⟩ := ih (i + 1) m (withS s k) (σ.put 0 (withS s k).d) (by omega) (by omega) (by simp) (by simpa using h0)
    refine ⟨σ', ?_⟩
    rw [drop_get hk0, setL, ← h8]
    refine iterJ_next' ?_
    have hq : idxSSem 1 [.slice false 1 1 (irows l), .int .i64 (i : Int)] = some (.elem [.int .i64 (k : Int)] 0) := by
      simp [idxSSem, hk0]
    have hlen : lenSlSem [.slice false 1 1 (irows l)] = some (.int .i64 (l.length : Int)) := by simp [lenSlSem, goI]
    have hd := wrap_div k hkl
    have hd' : (k : Int).tdiv 64 = (k : Int) / 64 := Int.tdiv_eq_ediv_of_nonneg (by omega)
    simp -implicitDefEqProofs [L80_0, B80_0, hi', hq, hlen, hwr, hd, hd', h1, h2, h3, h4, h5, h6, h7, tmod_nat, IntKind.bits, -Int.natCast_emod, -Int.natCast_ediv, -Int.natCast_pow, -idxASem.eq_1, -idxSSem.eq_1, -lenSlSem.eq_2]
theorem e80 {n : Nat} (hn : 2000 ≤ n) (l : List Nat) (hl : l.length ≤ 1000) (hk : ∀ k ∈ l, k < 256) : cpJ PR n 80 [.slice false 1 1 (irows l)] = some (setL l SetV.zero).d := by
  obtain ⟨n, rfl⟩ : ∃ m, n = m + 1 := ⟨n - 1, by omega⟩
  obtain ⟨σ', h1⟩ := l80 (n := n) l hl hk l.length 0 n SetV.zero (emptySto.new SetV.zero.d) (by omega) (by omega) rfl (by simp [emptySto])
  simp only [Int.natCast_zero, List.drop_zero] at h1
  have h2 : allocOSem emptySto [.int .u64 0, .int .u64 0, .int .u64 0, .int .u64 0] [] = some (.obj 0 0, emptySto.new SetV.zero.d) := rfl
  rw [u80]
  simp -implicitDefEqProofs [D80, h1, h2]
def initC : CtxV := ⟨0, 1, 0, ⟨0, 0, by decide⟩, ⟨0, 0, by decide⟩⟩
def fileC : CtxV := ⟨0, 0, 2, ⟨0, 0, by decide⟩, ⟨0, 0, by decide⟩⟩
theorem e37 {n : Nat} (hn : 1 ≤ n) : cpJ PR n 37 [] = some initC.d := by
  obtain ⟨n, rfl⟩ : ∃ m, n = m + 1 := ⟨n - 1, by omega⟩
  rw [u37]
  simp -implicitDefEqProofs [D37]
  rfl
theorem e81 {n : Nat} (hn : 1 ≤ n) : cpJ PR n 81 [] = some fileC.d := by
  obtain ⟨n, rfl⟩ : ∃ m, n = m + 1 := ⟨n - 1, by omega⟩
  rw [u81]
  simp -implicitDefEqProofs [D81]
  rfl
def set1 (w : Nat) (h : w < 18446744073709551616 := by decide) : SetV := ⟨fun i => if i = 0 then w else 0, fun i => by split <;> first | exact h | decide⟩
abbrev seA (w : Nat) : DVal := .agg [.int .u64 (w : Int), .int .u64 0, .int .u64 0, .int .u64 0]
def lv0 : LvV := ⟨0, 0, by decide⟩
def sampleP : PolV where
  classes := ⟨.lit, [⟨[112, 114, 111, 99, 101, 115, 115], ⟨.lit, [[102, 111, 114, 107], [116, 114, 97, 110, 115, 105, 116, 105, 111, 110], [100, 121, 110, 116, 114, 97, 110, 115, 105, 116, 105, 111, 110], [115, 101, 110, 100]]⟩⟩,
    ⟨[102, 105, 108, 101], ⟨.lit, [[114, 101, 97, 100], [119, 114, 105, 116, 101], [99, 114, 101, 97, 116, 101], [117, 110, 108, 105, 110, 107], [101, 120, 101, 99, 117, 116, 101], [101, 110, 116, 114, 121, 112, 111, 105, 110, 116], [114, 101, 108, 97, 98, 101, 108, 102, 114, 111, 109], [114, 101, 108, 97, 98, 101, 108, 116, 111]]⟩⟩, ⟨[100, 105, 114], ⟨.lit, [[114, 101, 97, 100], [119, 114, 105, 116, 101], [99, 114, 101, 97, 116, 101], [117, 110, 108, 105, 110, 107], [97, 100, 100], [114, 101, 109, 111, 118, 101], [114, 101, 108, 97, 98, 101, 108, 102, 114, 111, 109], [114, 101, 108, 97, 98, 101, 108, 116, 111]]⟩⟩]⟩
  types := ⟨.lit, [⟨[105, 110, 105, 116, 95, 116], ⟨.nil, []⟩, false⟩, ⟨[117, 115, 101, 114, 95, 116], ⟨.nil, []⟩, false⟩, ⟨[102, 105, 108, 101, 95, 116], ⟨.nil, []⟩, false⟩, ⟨[115, 104, 101, 108, 108, 95, 116], ⟨.nil, []⟩, false⟩]⟩
  attrs := ⟨.lit, [⟨[100, 111, 109, 97, 105, 110], set1 3⟩]⟩
  roles := ⟨.lit, [⟨[111, 98, 106, 101, 99, 116, 95, 114], set1 0, set1 0⟩, ⟨[115, 121, 115, 116, 101, 109], set1 3, set1 0⟩]⟩
  users := ⟨.lit, [⟨[114, 111, 111, 116], set1 2, lv0, lv0, lv0⟩]⟩
  bools := ⟨.lit, [⟨[115, 104, 97, 114, 101], false⟩]⟩
  sens := ⟨.lit, [[115, 48]]⟩
  cats := ⟨.nil, []⟩
  conds := ⟨.lit, [.mk 1 0 0 0 ⟨.nil, []⟩ (set1 0) .nil []]⟩
  rules := ⟨.lit, [⟨1, set1 3, set1 0, true, 0, 9, 0, by decide⟩, ⟨1, set1 1, set1 12, false, 1, 17, 0, by decide⟩, ⟨1, set1 1, set1 2, false, 0, 2, 0, by decide⟩, ⟨1, set1 2, set1 8, false, 1, 32, 0, by decide⟩, ⟨1, set1 2, set1 4, false, 1, 1, 1, by decide⟩]⟩
  trans := ⟨.lit, [⟨1, set1 1, set1 8, 0, [], 1, 0⟩]⟩
  roleTrans := ⟨.nil, []⟩
  ranges := ⟨.nil, []⟩
  constrs := ⟨.nil, []⟩
  sids := ⟨.lit, [⟨[107, 101, 114, 110, 101, 108], initC⟩, ⟨[114, 111, 111, 116], fileC⟩, ⟨[117, 110, 108, 97, 98, 101, 108, 101, 100], fileC⟩]⟩
  files := ⟨.nil, []⟩
  asserts := ⟨.nil, []⟩
theorem e36 {n : Nat} (hn : 2001 ≤ n) : cpJ PR n 36 [] = some sampleP.d := by
  obtain ⟨n, rfl⟩ : ∃ m, n = m + 1 := ⟨n - 1, by omega⟩
  have a0 : cpJ PR n 80 [.slice false 1 1 [[.int .i64 0]]] = some (seA 1) := e80 (n := n) (by omega) [0] (by decide) (by decide)
  have a1 : cpJ PR n 80 [.slice false 1 1 [[.int .i64 1]]] = some (seA 2) := e80 (n := n) (by omega) [1] (by decide) (by decide)
  have a2 : cpJ PR n 80 [.slice false 1 1 [[.int .i64 2]]] = some (seA 4) := e80 (n := n) (by omega) [2] (by decide) (by decide)
  have a3 : cpJ PR n 80 [.slice false 1 1 [[.int .i64 3]]] = some (seA 8) := e80 (n := n) (by omega) [3] (by decide) (by decide)
  have a4 : cpJ PR n 80 [.slice false 1 1 [[.int .i64 0], [.int .i64 1]]] = some (seA 3) := e80 (n := n) (by omega) [0, 1] (by decide) (by decide)
  have a5 : cpJ PR n 80 [.slice false 1 1 [[.int .i64 2], [.int .i64 3]]] = some (seA 12) := e80 (n := n) (by omega) [2, 3] (by decide) (by decide)
  have b1 : cpJ PR n 37 [] = some (.agg [.int .i64 0, .int .i64 1, .int .i64 0, .int .i64 0, .int .u64 0, .int .i64 0, .int .u64 0]) := e37 (by omega)
  have b2 : cpJ PR n 81 [] = some (.agg [.int .i64 0, .int .i64 0, .int .i64 2, .int .i64 0, .int .u64 0, .int .i64 0, .int .u64 0]) := e81 (by omega)
  rw [u36]
  simp -implicitDefEqProofs [D36, a0, a1, a2, a3, a4, a5, b1, b2]
  rfl
end Go.Proofs.YthpccimmmfonjaaGreatDoor
namespace Go.Proofs.YthpccimmmfonjaaGreatDoor
set_option linter.unusedVariables false
set_option linter.unusedSimpArgs false
set_option maxRecDepth 100000
set_option maxHeartbeats 8000000
open Go
theorem sample_good : Good' sampleP where
  types := ⟨by decide, by decide, by simp⟩
  roles := ⟨rfl, by decide, by decide⟩
  users := ⟨by decide, by decide, by simp⟩
  cats := ⟨⟨by decide, by decide, by simp⟩, ⟨by decide, by decide, by simp⟩⟩
  small := ⟨by decide, by decide, by decide, by decide, by decide, by decide, by decide, by decide, by decide, by decide, by decide, by decide, by decide, by decide, by decide, by decide, by decide, by decide⟩
theorem s0_range : LPar sampleP.sens.l sampleP.cats.l [115, 48] (lv0, lv0, 0) := by
  have h := lpar_text sample_good.lev lv0 lv0 (by decide)
  have e : textV sampleP.sens.l sampleP.cats.l lv0.s lv0.c lv0.s lv0.c = [115, 48] := by kernel_rfl
  rwa [e] at h
section
variable {n : Nat} (hn : 1200000 ≤ n)
include hn
theorem al_parse (s : Bs) (hs : s.length ≤ 1000) (h4 : (partsV s).length = 4 → (partsV s).getD 3 [] = [115, 48]) {c : CtxV} {e : Int} (h : parseC sampleP s (lv0, lv0, 0) = (c, e)) :
    cpJ PR n 20 [sampleP.d, .str s] = some (.tup [c.d, .int .i64 e]) := by
  have := e20 (n := n) (by omega) sampleP sample_good s (by omega) (lv0, lv0, 0) fun h => by rw [h4 h]; exact s0_range
  rwa [h] at this
theorem e12 : cpJ PR (n + 1) 12 [] = some (.bool true) := by
  have h1 := e36 (n := n) (by omega)
  have h2 := e37 (n := n) (by omega)
  have h3 := e18 (n := n) (by omega) sampleP sample_good initC
  have t3 : textC sampleP initC = [114, 111, 111, 116, 58, 115, 121, 115, 116, 101, 109, 58, 105, 110, 105, 116, 95, 116, 58, 115, 48] := by kernel_rfl
  have c3 : checkC sampleP initC = 0 := by kernel_rfl
  rw [t3, c3] at h3
  have h4 := al_parse hn [114, 111, 111, 116, 58, 111, 98, 106, 101, 99, 116, 95, 114, 58, 115, 104, 101, 108, 108, 95, 116, 58, 115, 48] (by decide) (fun _ => by kernel_rfl) (c := ⟨0, 0, 3, lv0, lv0⟩) (e := 0) (by kernel_rfl)
  have h5 := al_parse hn [114, 111, 111, 116, 58, 115, 121, 115, 116, 101, 109, 58, 102, 105, 108, 101, 95, 116, 58, 115, 48] (by decide) (fun _ => by kernel_rfl) (c := CtxV.z) (e := 19) (by kernel_rfl)
  have h6 := al_parse hn [114, 111, 111, 116, 58, 115, 121, 115, 116, 101, 109, 58, 120, 58, 115, 48] (by decide) (fun _ => by kernel_rfl) (c := CtxV.z) (e := 11) (by kernel_rfl)
  have h7 := al_parse hn [114, 111, 111, 116, 58, 115, 121, 115, 116, 101, 109] (by decide) (fun h => absurd h (by decide)) (c := CtxV.z) (e := 9) (by kernel_rfl)
  have h8 := e24 (n := n) (by omega) sample_good.small [107, 101, 114, 110, 101, 108]
  have i8 : initL [107, 101, 114, 110, 101, 108] sampleP.sids.l = (initC, true) := by kernel_rfl
  rw [i8] at h8
  unfold initD at h8
  simp only at h8
  have h9 := e15 (n := n) (by omega) ⟨0, 0, 3, lv0, lv0⟩
  have o9 : (((⟨0, 0, 3, lv0, lv0⟩ : CtxV).role == 0) : Bool) = true := rfl
  rw [o9] at h9
  obtain ⟨v, h10, hv⟩ := e22 (n := n) (by omega) sample_good.small
  obtain ⟨z, hz⟩ := fresh_stale hv
  have h11 : lenSlSem [slD z 7 (crows (allC sampleP))] = some (.int .i64 6) := by
    have : (allC sampleP).length = 6 := by kernel_rfl
    simp [this]
  generalize slD z 7 (crows (allC sampleP)) = w at *
  obtain ⟨q, h12, h12'⟩ := ctx_beq initC initC
  have h13 := e17 (n := n) (by omega) initC initC h12
  rw [h12'.2 rfl] at h13
  have j1 : jwrSem 0 17 [.agg [.nils, .nils, .nils, .nils, .nils, .nils, .nils, .nils, .nils, .nils, .nils, .nils, .nils, .nils, .nils, .nils, .nils], sampleP.d] = some sampleP.d := by kernel_rfl
  have j2 : ∀ c : CtxV, jwrSem 0 7 [.agg [.int .i64 0, .int .i64 0, .int .i64 0, .int .i64 0, .int .u64 0, .int .i64 0, .int .u64 0], c.d] = some c.d := fun c => by simp
  generalize hc4 : (⟨0, 0, 3, lv0, lv0⟩ : CtxV) = c4 at *
  generalize CtxV.z = c0 at *
  generalize initC = ci at *
  generalize sampleP = P at *
  rw [u12]
  simp -implicitDefEqProofs [D12, h1, h2, h3, h4, h5, h6, h7, h8, h9, h10, h11, h13, hz, j1]
end
theorem alive_true {n : Nat} (hn : 1200001 ≤ n) : cpJ PR n 12 [] = some (.bool true) := by
  obtain ⟨n, rfl⟩ : ∃ m, n = m + 1 := ⟨n - 1, by omega⟩
  exact e12 (by omega)
end Go.Proofs.YthpccimmmfonjaaGreatDoor
