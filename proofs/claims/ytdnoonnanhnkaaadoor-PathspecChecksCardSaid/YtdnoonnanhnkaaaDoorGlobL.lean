/- Patterns with stars, letters and costs: plain laws of lists, no program. A star stands for any number of letters, another sign for one; the least cost of a word that two patterns have in common. -/
import Derived.Control
set_option linter.unusedVariables false
set_option linter.unusedSimpArgs false
namespace Go.Proofs.YtdnoonnanhnkaaaDoor
open Go

section
variable {α β : Type} (S : α → Bool) (L : β → Prop) (ok : α → β → Prop)

/-- A word matches a pattern. -/
inductive Gm : List α → List β → Prop
  | nil : Gm [] []
  | star0 {a l w} : S a = true → Gm l w → Gm (a :: l) w
  | star1 {a l b w} : S a = true → L b → Gm (a :: l) w → Gm (a :: l) (b :: w)
  | one {a l b w} : S a = false → ok a b → Gm l w → Gm (a :: l) (b :: w)

variable {S L ok}

theorem Gm.append {l m : List α} {w v : List β} (h : Gm S L ok l w) (h' : Gm S L ok m v) : Gm S L ok (l ++ m) (w ++ v) := by
  induction h with
  | nil => simpa using h'
  | star0 hs _ ih => exact .star0 hs ih
  | star1 hs hb _ ih => exact .star1 hs hb ih
  | one hs ho _ ih => exact .one hs ho ih

theorem Gm.snoc_star {l : List α} {w : List β} {a : α} {b : β} (hs : S a = true) (hb : L b) (h : Gm S L ok (l ++ [a]) w) : Gm S L ok (l ++ [a]) (w ++ [b]) := by
  generalize e : l ++ [a] = m at h
  induction h generalizing l with
  | nil => simp at e
  | star0 hs' h ih =>
    rename_i a' l' w'
    cases l with
    | nil =>
      simp only [List.nil_append, List.cons.injEq] at e
      obtain ⟨rfl, rfl⟩ := e
      cases h
      exact .star1 hs hb (.star0 hs .nil)
    | cons c l =>
      simp only [List.cons_append, List.cons.injEq] at e
      obtain ⟨rfl, e⟩ := e
      exact .star0 hs' (ih e)
  | star1 hs' hb' h ih => exact .star1 hs' hb' (ih e)
  | one hs' ho h ih =>
    rename_i a' l' b' w'
    cases l with
    | nil =>
      simp only [List.nil_append, List.cons.injEq] at e
      obtain ⟨rfl, rfl⟩ := e
      rw [hs] at hs'; cases hs'
    | cons c l =>
      simp only [List.cons_append, List.cons.injEq] at e
      obtain ⟨rfl, e⟩ := e
      exact .one hs' ho (ih e)

theorem Gm.reverse {l : List α} {w : List β} (h : Gm S L ok l w) : Gm S L ok l.reverse w.reverse := by
  induction h with
  | nil => exact .nil
  | star0 hs _ ih =>
    have := ih.append (Gm.star0 (l := []) hs .nil)
    simpa using this
  | star1 hs hb _ ih =>
    simp only [List.reverse_cons] at ih ⊢
    exact ih.snoc_star hs hb
  | one hs ho _ ih =>
    have := ih.append (Gm.one hs ho Gm.nil)
    simpa using this

variable (S)
/-- The least cost of a common word, at most inf: k1: of a letter for one sign, k2: for two. -/
def dp (inf : Nat) (k1 : α → Nat) (k2 : α → α → Nat) : List α → List α → Nat
  | [], [] => 0
  | [], b :: m => if S b then dp inf k1 k2 [] m else inf
  | a :: l, [] => if S a then dp inf k1 k2 l [] else inf
  | a :: l, b :: m => min inf (if S a then (if S b then min (dp inf k1 k2 l (b :: m)) (dp inf k1 k2 (a :: l) m) else min (dp inf k1 k2 l (b :: m)) (dp inf k1 k2 (a :: l) m + k1 b))
      else if S b then min (dp inf k1 k2 (a :: l) m) (dp inf k1 k2 l (b :: m) + k1 a) else dp inf k1 k2 l m + k2 a b)
termination_by l m => l.length + m.length
variable {S}

variable {inf : Nat} {k1 : α → Nat} {k2 : α → α → Nat}

theorem dp_le : ∀ (l m : List α), dp S inf k1 k2 l m ≤ inf
  | [], [] => by rw [dp]; omega
  | [], b :: m => by
    rw [dp]
    split
    · exact dp_le [] m
    · omega
  | a :: l, [] => by
    rw [dp]
    split
    · exact dp_le l []
    · omega
  | a :: l, b :: m => by rw [dp]; omega

def costW (c : β → Nat) : List β → Nat
  | [] => 0
  | b :: w => c b + costW c w

theorem costW_append (c : β → Nat) : ∀ (w v : List β), costW c (w ++ v) = costW c w + costW c v
  | [], v => by simp [costW]
  | b :: w, v => by simp [costW, costW_append c w v]; omega
theorem costW_reverse (c : β → Nat) : ∀ (w : List β), costW c w.reverse = costW c w
  | [] => rfl
  | b :: w => by rw [List.reverse_cons, costW_append, costW_reverse c w]; simp [costW]; omega

/-- No common word costs less. -/
theorem dp_lower {c : β → Nat} (h1 : ∀ a b, ok a b → k1 a ≤ c b) (h2 : ∀ a a' b, ok a b → ok a' b → k2 a a' ≤ c b) :
    ∀ (N : Nat) (l m : List α) (w : List β), l.length + m.length + w.length < N → Gm S L ok l w → Gm S L ok m w → dp S inf k1 k2 l m ≤ costW c w
  | 0, _, _, _, h, _, _ => by omega
  | N + 1, l, m, w, hN, hl, hm => by
    have ih := dp_lower h1 h2 N
    cases hl with
    | nil =>
      cases hm with
      | nil => rw [dp]; omega
      | star0 hs h =>
        rw [dp, if_pos hs]
        exact ih _ _ _ (by simp at hN ⊢; omega) .nil h
    | star0 hs h =>
      rename_i a l
      have hrec := ih l m w (by simp at hN ⊢; omega) h hm
      cases m with
      | nil => rw [dp, if_pos hs]; exact hrec
      | cons b m => rw [dp, if_pos hs]; split <;> omega
    | star1 hs hb h =>
      rename_i a l b w
      cases hm with
      | star0 hs' h' =>
        rename_i b' m
        have hrec := ih (a :: l) m (b :: w) (by simp at hN ⊢; omega) (.star1 hs hb h) h'
        rw [dp, if_pos hs, if_pos hs']
        omega
      | star1 hs' hb' h' =>
        rename_i b' m
        have hrec := ih (a :: l) (b' :: m) w (by simp at hN ⊢; omega) h h'
        simp only [costW]
        omega
      | one hs' ho h' =>
        rename_i b' m
        have hrec := ih (a :: l) m w (by simp at hN ⊢; omega) h h'
        have hk := h1 _ _ ho
        rw [dp, if_pos hs, if_neg (by rw [hs']; decide)]
        simp only [costW]
        omega
    | one hs ho h =>
      rename_i a l b w
      cases hm with
      | star0 hs' h' =>
        rename_i b' m
        have hrec := ih (a :: l) m (b :: w) (by simp at hN ⊢; omega) (.one hs ho h) h'
        rw [dp, if_neg (by rw [hs]; decide), if_pos hs']
        omega
      | star1 hs' hb' h' =>
        rename_i b' m
        have hrec := ih l (b' :: m) w (by simp at hN ⊢; omega) h h'
        have hk := h1 _ _ ho
        rw [dp, if_neg (by rw [hs]; decide), if_pos hs']
        simp only [costW]
        omega
      | one hs' ho' h' =>
        rename_i b' m
        have hrec := ih l m w (by simp at hN ⊢; omega) h h'
        have hk := h2 _ _ _ ho ho'
        rw [dp, if_neg (by rw [hs]; decide), if_neg (by rw [hs']; decide)]
        simp only [costW]
        omega

/-- The least cost is that of a common word. -/
theorem dp_attained {c : β → Nat} (D : α → Prop) (h1 : ∀ a, D a → S a = false → k1 a < inf → ∃ b, L b ∧ ok a b ∧ c b = k1 a) (h2 : ∀ a a', D a → D a' → S a = false → S a' = false → k2 a a' < inf → ∃ b, ok a b ∧ ok a' b ∧ c b = k2 a a') :
    ∀ (N : Nat) (l m : List α), l.length + m.length < N → (∀ a ∈ l, D a) → (∀ a ∈ m, D a) → dp S inf k1 k2 l m < inf → ∃ w, costW c w = dp S inf k1 k2 l m ∧ Gm S L ok l w ∧ Gm S L ok m w
  | 0, _, _, h, _, _, _ => by omega
  | N + 1, l, m, hN, hl, hm, hlt => by
    have ih := dp_attained D h1 h2 N
    match l, m, hl, hm with
    | [], [], _, _ => exact ⟨[], by rw [dp]; rfl, .nil, .nil⟩
    | [], b :: m, _, hm =>
      rw [dp] at hlt ⊢
      cases hs : S b with
      | false => rw [hs] at hlt; simp at hlt
      | true =>
        rw [hs] at hlt
        simp only [if_true] at hlt ⊢
        obtain ⟨w, e, g1, g2⟩ := ih [] m (by simp at hN ⊢; omega) (by simp) (fun a ha => hm a (by simp [ha])) hlt
        exact ⟨w, e, g1, .star0 hs g2⟩
    | a :: l, [], hl, _ =>
      rw [dp] at hlt ⊢
      cases hs : S a with
      | false => rw [hs] at hlt; simp at hlt
      | true =>
        rw [hs] at hlt
        simp only [if_true] at hlt ⊢
        obtain ⟨w, e, g1, g2⟩ := ih l [] (by simp at hN ⊢; omega) (fun a ha => hl a (by simp [ha])) (by simp) hlt
        exact ⟨w, e, .star0 hs g1, g2⟩
    | a :: l, b :: m, hl, hm =>
      have hl' : ∀ x ∈ l, D x := fun x hx => hl x (by simp [hx])
      have hm' : ∀ x ∈ m, D x := fun x hx => hm x (by simp [hx])
      have iha := ih l (b :: m) (by simp at hN ⊢; omega) hl' hm
      have ihb := ih (a :: l) m (by simp at hN ⊢; omega) hl hm'
      have ihc := ih l m (by simp at hN ⊢; omega) hl' hm'
      rw [dp] at hlt ⊢
      generalize dp S inf k1 k2 l (b :: m) = A at *
      generalize dp S inf k1 k2 (a :: l) m = B at *
      generalize dp S inf k1 k2 l m = C at *
      cases hs : S a <;> cases hs' : S b <;> rw [hs, hs'] at hlt <;> simp only [if_true, if_false, Bool.false_eq_true] at hlt ⊢
      · obtain ⟨x, x1, x2, x3⟩ := h2 a b (hl a (by simp)) (hm b (by simp)) hs hs' (by omega)
        obtain ⟨w, e, g1, g2⟩ := ihc (by omega)
        exact ⟨x :: w, by simp only [costW]; omega, .one hs x1 g1, .one hs' x2 g2⟩
      · by_cases hle : B ≤ A + k1 a
        · obtain ⟨w, e, g1, g2⟩ := ihb (by omega)
          exact ⟨w, by omega, g1, .star0 hs' g2⟩
        · obtain ⟨x, x0, x1, x3⟩ := h1 a (hl a (by simp)) hs (by omega)
          obtain ⟨w, e, g1, g2⟩ := iha (by omega)
          exact ⟨x :: w, by simp only [costW]; omega, .one hs x1 g1, .star1 hs' x0 g2⟩
      · by_cases hle : A ≤ B + k1 b
        · obtain ⟨w, e, g1, g2⟩ := iha (by omega)
          exact ⟨w, by omega, .star0 hs g1, g2⟩
        · obtain ⟨x, x0, x1, x3⟩ := h1 b (hm b (by simp)) hs' (by omega)
          obtain ⟨w, e, g1, g2⟩ := ihb (by omega)
          exact ⟨x :: w, by simp only [costW]; omega, .star1 hs x0 g1, .one hs' x1 g2⟩
      · by_cases hle : A ≤ B
        · obtain ⟨w, e, g1, g2⟩ := iha (by omega)
          exact ⟨w, by omega, .star0 hs g1, g2⟩
        · obtain ⟨w, e, g1, g2⟩ := ihb (by omega)
          exact ⟨w, by omega, g1, .star0 hs' g2⟩

section
variable {c : β → Nat} {D : α → Prop} (l1 : ∀ a b, ok a b → k1 a ≤ c b) (l2 : ∀ a a' b, ok a b → ok a' b → k2 a a' ≤ c b)
  (h1 : ∀ a, D a → S a = false → k1 a < inf → ∃ b, L b ∧ ok a b ∧ c b = k1 a) (h2 : ∀ a a', D a → D a' → S a = false → S a' = false → k2 a a' < inf → ∃ b, ok a b ∧ ok a' b ∧ c b = k2 a a')
include l1 l2 h1 h2

theorem dp_lt_of {l m l' m' : List α} (hl : ∀ a ∈ l, D a) (hm : ∀ a ∈ m, D a) (f : ∀ w, Gm S L ok l w → Gm S L ok m w → ∃ v, Gm S L ok l' v ∧ Gm S L ok m' v ∧ costW c v = costW c w) : dp S inf k1 k2 l' m' ≤ dp S inf k1 k2 l m := by
  by_cases h : dp S inf k1 k2 l m < inf
  · obtain ⟨w, e, g1, g2⟩ := dp_attained D h1 h2 _ l m (Nat.lt_succ_self _) hl hm h
    obtain ⟨v, g3, g4, e2⟩ := f w g1 g2
    have := dp_lower (inf := inf) (S := S) (L := L) l1 l2 _ l' m' v (Nat.lt_succ_self _) g3 g4
    omega
  · have := dp_le (S := S) (inf := inf) (k1 := k1) (k2 := k2) l' m'
    omega

/-- It does not depend on the direction of reading. -/
theorem dp_reverse {l m : List α} (hl : ∀ a ∈ l, D a) (hm : ∀ a ∈ m, D a) : dp S inf k1 k2 l.reverse m.reverse = dp S inf k1 k2 l m := by
  refine Nat.le_antisymm (dp_lt_of l1 l2 h1 h2 hl hm fun w g1 g2 => ⟨w.reverse, g1.reverse, g2.reverse, costW_reverse c w⟩)
    (dp_lt_of l1 l2 h1 h2 (fun a ha => hl a (List.mem_reverse.1 ha)) (fun a ha => hm a (List.mem_reverse.1 ha)) fun w g1 g2 => ⟨w.reverse, ?_, ?_, costW_reverse c w⟩)
  · have := g1.reverse; rwa [List.reverse_reverse] at this
  · have := g2.reverse; rwa [List.reverse_reverse] at this

/-- Nor on the order of the two. -/
theorem dp_comm {l m : List α} (hl : ∀ a ∈ l, D a) (hm : ∀ a ∈ m, D a) : dp S inf k1 k2 m l = dp S inf k1 k2 l m :=
  Nat.le_antisymm (dp_lt_of l1 l2 h1 h2 hl hm fun w g1 g2 => ⟨w, g2, g1, rfl⟩) (dp_lt_of l1 l2 h1 h2 hm hl fun w g1 g2 => ⟨w, g2, g1, rfl⟩)
end

/-! Rows -/

theorem Gm.nil_iff {w : List β} : Gm S L ok [] w ↔ w = [] := ⟨fun h => by cases h; rfl, fun h => by subst h; exact .nil⟩

theorem Gm.star_iff {a : α} {l : List α} {w : List β} (hs : S a = true) (hw : ∀ b ∈ w, L b) : Gm S L ok (a :: l) w ↔ ∃ i, i ≤ w.length ∧ Gm S L ok l (w.drop i) := by
  constructor
  · intro h
    generalize e : a :: l = m at h
    induction h with
    | nil => cases e
    | star0 hs' h ih => cases e; exact ⟨0, Nat.zero_le _, by simpa using h⟩
    | star1 hs' hb h ih =>
      cases e
      obtain ⟨i, h1, h2⟩ := ih (fun b hb => hw b (by simp [hb])) rfl
      exact ⟨i + 1, by simp; omega, by simpa using h2⟩
    | one hs' ho h ih => cases e; rw [hs] at hs'; cases hs'
  · rintro ⟨i, h1, h2⟩
    have : ∀ (i : Nat) (w : List β), (∀ b ∈ w, L b) → Gm S L ok l (w.drop i) → Gm S L ok (a :: l) w := by
      intro i
      induction i with
      | zero => intro w _ h; exact .star0 hs (by simpa using h)
      | succ i ih =>
        intro w hw h
        cases w with
        | nil => exact .star0 hs (by simpa using h)
        | cons b w => exact .star1 hs (hw b (by simp)) (ih w (fun x hx => hw x (by simp [hx])) (by simpa using h))
    exact this i w hw h2

theorem Gm.one_iff {a : α} {l : List α} {w : List β} (hs : S a = false) : Gm S L ok (a :: l) w ↔ ∃ b v, w = b :: v ∧ ok a b ∧ Gm S L ok l v := by
  constructor
  · intro h
    cases h with
    | star0 hs' h => rw [hs] at hs'; cases hs'
    | star1 hs' hb h => rw [hs] at hs'; cases hs'
    | one hs' ho h => exact ⟨_, _, rfl, ho, h⟩
  · rintro ⟨b, v, rfl, ho, h⟩
    exact .one hs ho h
end

end Go.Proofs.YtdnoonnanhnkaaaDoor
