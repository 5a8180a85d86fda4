/- Texts of levels: what the program's way of reading them and the reference's way have in common. Plain laws of lists: no program. -/
import Derived.Test.YticbfdcfopilfaaDoorLevY
set_option linter.unusedVariables false
set_option linter.unusedSimpArgs false
namespace Go.Proofs.YticbfdcfopilfaaDoor
open Go

abbrev Bs := List UInt8

/-! Cutting at a byte -/

theorem index_none {c : UInt8} : ∀ {s : Bs}, c ∉ s → Lib.index s [c] = -1
  | [], _ => rfl
  | b :: l, h => by
    simp only [List.mem_cons, not_or] at h
    have := index_none h.2
    have hb : ¬ (c = b) := h.1
    simp [Lib.index, List.isPrefixOf, hb, this]

theorem index_at {c : UInt8} {b : Bs} : ∀ {a : Bs}, c ∉ a → Lib.index (a ++ c :: b) [c] = a.length
  | [], _ => by simp [Lib.index, List.isPrefixOf]
  | x :: a, h => by
    simp only [List.mem_cons, not_or] at h
    have := index_at (b := b) h.2
    have hb : ¬ (c = x) := h.1
    have hne : ¬ ((a.length : Int) = -1) := by omega
    simp [Lib.index, List.isPrefixOf, hb, this, hne]

theorem cut_miss {c : UInt8} {s : Bs} (h : c ∉ s) : Lib.cut s [c] = (s, [], false) := by
  simp [Lib.cut, index_none h]
theorem cut_hit {c : UInt8} {a b : Bs} (h : c ∉ a) : Lib.cut (a ++ c :: b) [c] = (a, b, true) := by
  have h0 : (0 : Int) ≤ a.length := by omega
  simp [Lib.cut, index_at h, h0]

theorem cut_exists (c : UInt8) : ∀ (s : Bs), c ∉ s ∨ ∃ a b, s = a ++ c :: b ∧ c ∉ a
  | [] => .inl (by simp)
  | x :: s => by
    by_cases h : x = c
    · subst h; exact .inr ⟨[], s, rfl, by simp⟩
    · rcases cut_exists c s with h' | ⟨a, b, rfl, h'⟩
      · exact .inl (by simp [h', Ne.symm h])
      · exact .inr ⟨x :: a, b, rfl, by simp [h', Ne.symm h]⟩

/-- Pieces joined by a byte. -/
def joinC (c : UInt8) (p : Bs) (r : List Bs) : Bs := p ++ r.flatMap fun q => c :: q

theorem count_join {c : UInt8} : ∀ {r : List Bs} {p : Bs}, c ∉ p → (∀ q ∈ r, c ∉ q) → Lib.count (joinC c p r) [c] = r.length
  | [], p, hp, _ => by simp [joinC, Lib.count_miss (index_none hp)]
  | q :: r, p, hp, hr => by
    have e : joinC c p (q :: r) = p ++ c :: joinC c q r := by simp [joinC]
    rw [e, Lib.count_hit (by simp) (index_at hp)]
    have : (p ++ c :: joinC c q r).drop (p.length + [c].length) = joinC c q r := by simp
    rw [this, count_join (hr q (by simp)) (fun x hx => hr x (by simp [hx]))]
    simp; omega

theorem splitK_join {c : UInt8} : ∀ {r : List Bs} {p : Bs} {k : Nat}, r.length ≤ k → c ∉ p → (∀ q ∈ r, c ∉ q) → Lib.splitK [c] 0 k (joinC c p r) = p :: r
  | [], p, k, hk, hp, _ => by
    have e : joinC c p [] = p := by simp [joinC]
    rw [e]
    cases k with
    | zero => rfl
    | succ k => simp [Lib.splitK, index_none hp]
  | q :: r, p, k, hk, hp, hr => by
    obtain ⟨k, rfl⟩ : ∃ j, k = j + 1 := ⟨k - 1, by simp at hk; omega⟩
    have e : joinC c p (q :: r) = p ++ c :: joinC c q r := by simp [joinC]
    have hne : ¬ ((p.length : Int) = -1) := by omega
    rw [e, Lib.splitK, index_at hp]
    have : (p ++ c :: joinC c q r).drop (p.length + 1) = joinC c q r := by simp
    simp [hne, this, splitK_join (k := k) (by simp at hk; omega) (hr q (by simp)) (fun x hx => hr x (by simp [hx]))]

theorem joinC_len {c : UInt8} : ∀ {r : List Bs} {p : Bs}, r.length ≤ (joinC c p r).length
  | [], p => by simp
  | q :: r, p => by
    have := joinC_len (c := c) (r := r) (p := q)
    have e : joinC c p (q :: r) = p ++ c :: joinC c q r := by simp [joinC]
    rw [e]
    simp; omega

theorem split_join {c : UInt8} {r : List Bs} {p : Bs} (hp : c ∉ p) (hr : ∀ q ∈ r, c ∉ q) : Lib.splitN (joinC c p r) [c] (Lib.count (joinC c p r) [c] + 1) = p :: r := by
  unfold Lib.splitN
  rw [count_join hp hr]
  exact splitK_join (by have := joinC_len (c := c) (r := r) (p := p); omega) hp hr

theorem split_exists (c : UInt8) : ∀ (s : Bs), ∃ p r, s = joinC c p r ∧ c ∉ p ∧ ∀ q ∈ r, c ∉ q
  | [] => ⟨[], [], rfl, by simp, by simp⟩
  | x :: s => by
    obtain ⟨p, r, rfl, h1, h2⟩ := split_exists c s
    by_cases h : x = c
    · subst h
      exact ⟨[], p :: r, by simp [joinC], by simp, by simpa using ⟨h1, h2⟩⟩
    · exact ⟨x :: p, r, by simp [joinC], by simp [h1, Ne.symm h], h2⟩

/-! Levels as texts -/

def wordP (w : Bs) : Prop := wordV w = true
theorem wordP_iff {w : Bs} : wordP w ↔ w.all isL = true ∧ w ≠ [] := by
  unfold wordP wordV
  rw [Bool.and_eq_true, Bool.not_eq_true', List.isEmpty_eq_false_iff]

theorem isL_sp : isL 58 = false ∧ isL 44 = false ∧ isL 46 = false ∧ isL 45 = false := by decide

theorem not_mem_word {w : Bs} (h : w.all isL = true) {c : UInt8} (hc : isL c = false) : c ∉ w := fun hm => by
  have := List.all_eq_true.1 h c hm
  rw [hc] at this; cases this

def partS (p : Bs × Bs) : Bs := if p.2 = [] then p.1 else p.1 ++ 46 :: p.2
def ValidSp (p : Bs × Bs) : Prop := wordP p.1 ∧ (p.2 = [] ∨ wordP p.2)
def ValidL (l : Bs × List (Bs × Bs)) : Prop := wordP l.1 ∧ ∀ p ∈ l.2, ValidSp p
def renderL (l : Bs × List (Bs × Bs)) : Bs := txtT l.1 (l.2.map partS)

/-- The program's span. -/
def spanP (u : Bs) : Option (Bs × Bs) := let r := Lib.cut u [46]; if wordV r.1 = true ∧ (r.2.2 = true → wordV r.2.1 = true) then some (r.1, r.2.1) else none

def mapO {α β : Type} (f : α → Option β) : List α → Option (List β)
  | [] => some []
  | x :: xs => match f x, mapO f xs with
    | some y, some ys => some (y :: ys)
    | _, _ => none

/-- The program's level. -/
def parsedP (u : Bs) : Option (Bs × List (Bs × Bs)) :=
  let r := Lib.cut u [58]
  if wordV r.1 = true then (if r.2.2 = true then (mapO spanP (Lib.splitN r.2.1 [44] (Lib.count r.2.1 [44] + 1))).map fun sp => (r.1, sp) else some (r.1, [])) else none

theorem spanP_sound {u : Bs} {p : Bs × Bs} (h : spanP u = some p) : u = partS p ∧ ValidSp p := by
  unfold spanP at h
  rcases cut_exists 46 u with hm | ⟨a, b, rfl, hm⟩
  · rw [cut_miss hm] at h
    simp only [Bool.false_eq_true, false_implies, and_true] at h
    split at h
    · rename_i hw
      simp only [Option.some.injEq] at h
      subst h
      exact ⟨by simp [partS], hw, .inl rfl⟩
    · cases h
  · rw [cut_hit hm] at h
    simp only [true_implies] at h
    split at h
    · rename_i hw
      simp only [Option.some.injEq] at h
      subst h
      have hb : b ≠ [] := (wordP_iff.1 hw.2).2
      exact ⟨by simp [partS, hb], hw.1, .inr hw.2⟩
    · cases h

theorem spanP_complete {p : Bs × Bs} (h : ValidSp p) : spanP (partS p) = some p := by
  obtain ⟨f, t⟩ := p
  obtain ⟨h1, h2⟩ := h
  have hf : (46 : UInt8) ∉ f := not_mem_word (wordP_iff.1 h1).1 isL_sp.2.2.1
  unfold spanP
  by_cases ht : t = []
  · subst ht
    have : partS (f, []) = f := by simp [partS]
    rw [this, cut_miss hf]
    simp [show wordV f = true from h1]
  · have hw : wordV t = true := by rcases h2 with h2 | h2
                                   · exact absurd h2 ht
                                   · exact h2
    have : partS (f, t) = f ++ 46 :: t := by simp [partS, ht]
    rw [this, cut_hit hf]
    simp [show wordV f = true from h1, hw]

theorem comma_part {p : Bs × Bs} (h : ValidSp p) : (44 : UInt8) ∉ partS p := by
  obtain ⟨f, t⟩ := p
  obtain ⟨h1, h2⟩ := h
  have hf : (44 : UInt8) ∉ f := not_mem_word (wordP_iff.1 h1).1 isL_sp.2.1
  unfold partS
  split
  · exact hf
  · rename_i ht
    rcases h2 with h2 | h2
    · exact absurd h2 ht
    · have ht' : (44 : UInt8) ∉ t := not_mem_word (wordP_iff.1 h2).1 isL_sp.2.1
      simp only at ht' ⊢
      simp [hf, ht']

theorem mapO_sound {us : List Bs} : ∀ {sp : List (Bs × Bs)}, mapO spanP us = some sp → us = sp.map partS ∧ ∀ p ∈ sp, ValidSp p := by
  induction us with
  | nil => intro sp h; simp only [mapO, Option.some.injEq] at h; subst h; simp
  | cons u us ih =>
    intro sp h
    simp only [mapO] at h
    split at h
    · rename_i y ys h1 h2
      simp only [Option.some.injEq] at h
      subst h
      obtain ⟨a1, a2⟩ := spanP_sound h1
      obtain ⟨b1, b2⟩ := ih h2
      refine ⟨by simp [a1, b1], fun p hp => ?_⟩
      rcases List.mem_cons.1 hp with rfl | hp
      · exact a2
      · exact b2 p hp
    · cases h

theorem mapO_complete : ∀ {sp : List (Bs × Bs)}, (∀ p ∈ sp, ValidSp p) → mapO spanP (sp.map partS) = some sp
  | [], _ => rfl
  | p :: sp, h => by
    simp only [List.map_cons, mapO, spanP_complete (h p (by simp)), mapO_complete (sp := sp) fun q hq => h q (by simp [hq])]

theorem parsedP_sound {u : Bs} {l : Bs × List (Bs × Bs)} (h : parsedP u = some l) : u = renderL l ∧ ValidL l := by
  unfold parsedP at h
  rcases cut_exists 58 u with hm | ⟨a, b, rfl, hm⟩
  · rw [cut_miss hm] at h
    simp only [Bool.false_eq_true, if_false] at h
    split at h
    · rename_i hw
      simp only [Option.some.injEq] at h
      subst h
      exact ⟨by simp [renderL, txtT], hw, by simp⟩
    · cases h
  · rw [cut_hit hm] at h
    simp only [if_true] at h
    split at h
    · rename_i hw
      simp only [Option.map_eq_some_iff] at h
      obtain ⟨sp, h, rfl⟩ := h
      obtain ⟨p, r, rfl, hp, hr⟩ := split_exists 44 b
      rw [split_join hp hr] at h
      obtain ⟨h1, h2⟩ := mapO_sound h
      refine ⟨?_, hw, h2⟩
      simp only [renderL, ← h1, txtT, tailT, joinC]
    · cases h

theorem parsedP_complete {l : Bs × List (Bs × Bs)} (h : ValidL l) : parsedP (renderL l) = some l := by
  obtain ⟨name, sp⟩ := l
  obtain ⟨h1, h2⟩ := h
  have hn : (58 : UInt8) ∉ name := not_mem_word (wordP_iff.1 h1).1 isL_sp.1
  unfold parsedP
  cases sp with
  | nil =>
    have : renderL (name, []) = name := by simp [renderL, txtT]
    rw [this, cut_miss hn]
    simp [show wordV name = true from h1]
  | cons p r =>
    have hc := mapO_complete (sp := p :: r) h2
    have e : renderL (name, p :: r) = name ++ 58 :: joinC 44 (partS p) (r.map partS) := by simp [renderL, txtT, tailT, joinC]
    rw [e, cut_hit hn]
    have hs := split_join (c := 44) (p := partS p) (r := r.map partS) (comma_part (h2 p (by simp))) (fun q hq => by
      simp only [List.mem_map] at hq
      obtain ⟨x, hx, rfl⟩ := hq
      exact comma_part (h2 x (by simp [hx])))
    simp only [if_true, hs, show wordV name = true from h1]
    rw [List.map_cons] at hc
    rw [hc]
    rfl

/-! The reference -/

def tw (u : Bs) : Bs := u.takeWhile isL
def dw (u : Bs) : Bs := u.dropWhile isL

theorem tw_dw (u : Bs) : tw u ++ dw u = u := List.takeWhile_append_dropWhile
theorem tw_word (w : Bs) (h : w.all isL = true) (u : Bs) (hu : u = [] ∨ ∃ c v, u = c :: v ∧ isL c = false) : tw (w ++ u) = w ∧ dw (w ++ u) = u := by
  unfold tw dw
  have h' : ∀ x ∈ w, isL x = true := List.all_eq_true.1 h
  rw [List.takeWhile_append_of_pos h', List.dropWhile_append_of_pos h']
  rcases hu with rfl | ⟨c, v, rfl, hc⟩
  · simp
  · simp [hc]
theorem tw_all (u : Bs) : (tw u).all isL = true := List.all_takeWhile

/-- What stands ahead of a span. -/
def sepB (first : Bool) : UInt8 := if first then 58 else 44

/-- Spans from a text on: the spans and the rest of the text. -/
def spansR : Nat → Bool → Bs → Option (List (Bs × Bs) × Bs)
  | 0, _, _ => none
  | k + 1, first, u =>
    match u with
    | [] => some ([], [])
    | c :: u' =>
      if c = sepB first then
        if tw u' = [] then none
        else match dw u' with
          | 46 :: v => if tw v = [] then none else (spansR k false (dw v)).map fun x => ((tw u', tw v) :: x.1, x.2)
          | w => (spansR k false w).map fun x => ((tw u', []) :: x.1, x.2)
      else some ([], c :: u')

def levelR (k : Nat) (u : Bs) : Option ((Bs × List (Bs × Bs)) × Bs) :=
  if tw u = [] then none else (spansR k true (dw u)).map fun x => ((tw u, x.1), x.2)

/-- A text of spans. -/
def renderSp (first : Bool) : List (Bs × Bs) → Bs
  | [] => []
  | p :: r => sepB first :: (partS p ++ renderSp false r)

theorem renderSp_tail : ∀ (r : List (Bs × Bs)), renderSp false r = tailT (r.map partS)
  | [] => rfl
  | p :: r => by simp [renderSp, renderSp_tail r, tailT, sepB]
theorem renderL_sp (l : Bs × List (Bs × Bs)) : renderL l = l.1 ++ renderSp true l.2 := by
  obtain ⟨name, sp⟩ := l
  cases sp with
  | nil => simp [renderL, txtT, renderSp]
  | cons p r => simp [renderL, txtT, renderSp, renderSp_tail, sepB]

theorem spansR_sound : ∀ (k : Nat) (first : Bool) (u : Bs) (sp : List (Bs × Bs)) (rest : Bs), spansR k first u = some (sp, rest) → u = renderSp first sp ++ rest ∧ ∀ p ∈ sp, ValidSp p
  | 0, first, u, sp, rest, h => by simp [spansR] at h
  | k + 1, first, u, sp, rest, h => by
    unfold spansR at h
    split at h
    · simp only [Option.some.injEq, Prod.mk.injEq] at h
      obtain ⟨rfl, rfl⟩ := h
      exact ⟨rfl, by simp⟩
    · rename_i c u'
      split at h
      · rename_i hc
        split at h
        · cases h
        · rename_i hf
          have wf : wordP (tw u') := wordP_iff.2 ⟨tw_all u', hf⟩
          split at h
          · rename_i v hv
            split at h
            · cases h
            · rename_i ht
              simp only [Option.map_eq_some_iff, Prod.mk.injEq] at h
              obtain ⟨⟨sp', rest'⟩, hk, rfl, rfl⟩ := h
              obtain ⟨a1, a2⟩ := spansR_sound k false _ _ _ hk
              have wt : wordP (tw v) := wordP_iff.2 ⟨tw_all v, ht⟩
              refine ⟨?_, fun p hp => ?_⟩
              · have e1 := tw_dw u'
                have e2 := tw_dw v
                rw [hv] at e1
                simp only [renderSp, partS, ht, if_false, ← hc]
                conv => lhs; rw [← e1, ← e2, a1]
                simp
              · rcases List.mem_cons.1 hp with rfl | hp
                · exact ⟨wf, .inr wt⟩
                · exact a2 p hp
          · simp only [Option.map_eq_some_iff, Prod.mk.injEq] at h
            obtain ⟨⟨sp', rest'⟩, hk, rfl, rfl⟩ := h
            obtain ⟨a1, a2⟩ := spansR_sound k false _ _ _ hk
            refine ⟨?_, fun p hp => ?_⟩
            · have e1 := tw_dw u'
              simp only [renderSp, partS, if_true, ← hc]
              conv => lhs; rw [← e1, a1]
              simp
            · rcases List.mem_cons.1 hp with rfl | hp
              · exact ⟨wf, .inl rfl⟩
              · exact a2 p hp
      · simp only [Option.some.injEq, Prod.mk.injEq] at h
        obtain ⟨rfl, rfl⟩ := h
        exact ⟨by simp [renderSp], by simp⟩

/-- A rest that ends a level. -/
def Ends (rest : Bs) : Prop := rest = [] ∨ ∃ r, rest = 45 :: r

theorem ends_or {sp : List (Bs × Bs)} {rest : Bs} (h : Ends rest) (first : Bool) : (renderSp first sp ++ rest = [] ∨ ∃ c v, renderSp first sp ++ rest = c :: v ∧ isL c = false) ∧ ∀ v, renderSp first sp ++ rest ≠ 46 :: v := by
  cases sp with
  | nil =>
    rcases h with rfl | ⟨r, rfl⟩
    · exact ⟨.inl rfl, by simp [renderSp]⟩
    · exact ⟨.inr ⟨45, r, rfl, isL_sp.2.2.2⟩, by simp [renderSp]⟩
  | cons p r =>
    cases first
    · exact ⟨.inr ⟨44, _, rfl, isL_sp.2.1⟩, by simp [renderSp, sepB]⟩
    · exact ⟨.inr ⟨58, _, rfl, isL_sp.1⟩, by simp [renderSp, sepB]⟩

theorem spansR_complete {rest : Bs} (hr : Ends rest) : ∀ (sp : List (Bs × Bs)) (k : Nat) (first : Bool), sp.length < k → (∀ p ∈ sp, ValidSp p) → spansR k first (renderSp first sp ++ rest) = some (sp, rest)
  | [], k, first, hk, _ => by
    obtain ⟨k, rfl⟩ : ∃ j, k = j + 1 := ⟨k - 1, by omega⟩
    rcases hr with rfl | ⟨r, rfl⟩
    · rfl
    · cases first <;> simp [spansR, renderSp, sepB]
  | p :: sp, k, first, hk, hv => by
    obtain ⟨k, rfl⟩ : ∃ j, k = j + 1 := ⟨k - 1, by omega⟩
    obtain ⟨f, t⟩ := p
    obtain ⟨h1, h2⟩ := hv (f, t) (by simp)
    have ih := spansR_complete hr sp k false (by simp at hk; omega) fun q hq => hv q (by simp [hq])
    obtain ⟨e1, e2⟩ := ends_or (sp := sp) hr false
    have wf := wordP_iff.1 h1
    simp only [renderSp, List.cons_append, spansR, if_true]
    by_cases ht : t = []
    · subst ht
      have hp : partS (f, []) = f := by simp [partS]
      rw [hp, List.append_assoc]
      obtain ⟨g1, g2⟩ := tw_word f wf.1 _ e1
      simp only [g1, g2, wf.2, if_false]
      rw [ih]; rfl
    · have wt : wordP t := by rcases h2 with h2 | h2
                              · exact absurd h2 ht
                              · exact h2
      have wt' := wordP_iff.1 wt
      have hp : partS (f, t) = f ++ 46 :: t := by simp [partS, ht]
      rw [hp, List.append_assoc, List.append_assoc, List.cons_append]
      obtain ⟨g1, g2⟩ := tw_word f wf.1 (46 :: (t ++ (renderSp false sp ++ rest))) (.inr ⟨46, _, rfl, isL_sp.2.2.1⟩)
      obtain ⟨g3, g4⟩ := tw_word t wt'.1 _ e1
      simp only [g1, g2, g3, g4, wf.2, wt'.2, if_false, ih, Option.map_some]

theorem levelR_sound {k : Nat} {u rest : Bs} {l : Bs × List (Bs × Bs)} (h : levelR k u = some (l, rest)) : u = renderL l ++ rest ∧ ValidL l := by
  unfold levelR at h
  split at h
  · cases h
  · rename_i hn
    simp only [Option.map_eq_some_iff, Prod.mk.injEq] at h
    obtain ⟨⟨sp, r⟩, hs, rfl, rfl⟩ := h
    obtain ⟨a1, a2⟩ := spansR_sound _ _ _ _ _ hs
    refine ⟨?_, wordP_iff.2 ⟨tw_all u, hn⟩, a2⟩
    rw [renderL_sp, List.append_assoc, ← a1, tw_dw]

theorem levelR_complete {k : Nat} {rest : Bs} {l : Bs × List (Bs × Bs)} (hr : Ends rest) (hk : l.2.length < k) (h : ValidL l) : levelR k (renderL l ++ rest) = some (l, rest) := by
  obtain ⟨name, sp⟩ := l
  have wn := wordP_iff.1 h.1
  obtain ⟨e1, -⟩ := ends_or (sp := sp) hr true
  unfold levelR
  rw [renderL_sp, List.append_assoc]
  obtain ⟨g1, g2⟩ := tw_word name wn.1 _ e1
  simp only [g1, g2, wn.2, if_false, spansR_complete hr sp k true hk h.2, Option.map_some]

end Go.Proofs.YticbfdcfopilfaaDoor
