/- What the rows compute: whether a word matches a pattern. The laws of stems and of patterns without special bytes. -/
import Derived.Test.YtdnoonnanhnkaaaDoorPatK2
import Derived.Test.YtdnoonnanhnkaaaDoorGlobL
set_option linter.unusedVariables false
set_option linter.unusedSimpArgs false
set_option maxRecDepth 20000
set_option maxHeartbeats 2000000
namespace Go.Proofs.YtdnoonnanhnkaaaDoor
open Go

theorem starR_iff {r : Nat → Bool} : ∀ {j : Nat}, starR r j = true ↔ ∃ i, i ≤ j ∧ r i = true
  | 0 => ⟨fun h => ⟨0, Nat.le_refl _, h⟩, fun ⟨i, h1, h2⟩ => by
      have : i = 0 := by omega
      rw [this] at h2
      exact h2⟩
  | j + 1 => by
    simp only [starR, Bool.or_eq_true, starR_iff (j := j)]
    constructor
    · rintro (h | ⟨i, h1, h2⟩)
      · exact ⟨j + 1, Nat.le_refl _, h⟩
      · exact ⟨i, by omega, h2⟩
    · rintro ⟨i, h1, h2⟩
      by_cases e : i = j + 1
      · subst e; exact .inl h2
      · exact .inr ⟨i, by omega, h2⟩
theorem oneR_iff {r f : Nat → Bool} {j : Nat} : oneR r f j = true ↔ ∃ i, j = i + 1 ∧ r i = true ∧ f i = true := by
  cases j with
  | zero => simp [oneR]
  | succ j => simp [oneR]

section
variable {α β : Type} {S : α → Bool} {L : β → Prop} {ok : α → β → Prop} {step : α → (Nat → Bool) → Nat → Bool} {f : α → Nat → Bool} {ws : List β}
  (hstep : ∀ a r, step a r = if S a = true then starR r else oneR r (f a)) (hL : ∀ b ∈ ws, L b) (hf : ∀ a i b, S a = false → ws[i]? = some b → (f a i = true ↔ ok a b))
include hstep hL hf

def runR (step : α → (Nat → Bool) → Nat → Bool) : List α → (Nat → Bool) → Nat → Bool
  | [], r => r
  | a :: l, r => runR step l (step a r)

theorem runR_iff : ∀ (l : List α) (r : Nat → Bool) (k : Nat), k ≤ ws.length → (runR step l r k = true ↔ ∃ j, j ≤ k ∧ r j = true ∧ Gm S L ok l ((ws.take k).drop j))
  | [], r, k, hk => by
    simp only [runR, Gm.nil_iff]
    constructor
    · intro h; exact ⟨k, Nat.le_refl _, h, by rw [List.drop_eq_nil_of_le]; simp; omega⟩
    · rintro ⟨j, h1, h2, h3⟩
      have := congrArg List.length h3
      simp at this
      obtain rfl : j = k := by omega
      exact h2
  | a :: l, r, k, hk => by
    simp only [runR]
    rw [runR_iff l (step a r) k hk, hstep]
    cases hs : S a with
    | true =>
      simp only [if_true]
      constructor
      · rintro ⟨j, h1, h2, h3⟩
        obtain ⟨i, h4, h5⟩ := starR_iff.1 h2
        refine ⟨i, by omega, h5, (Gm.star_iff hs fun b hb => hL b (List.mem_of_mem_take (List.mem_of_mem_drop hb))).2 ⟨j - i, by simp; omega, ?_⟩⟩
        rw [List.drop_drop, show i + (j - i) = j by omega]
        exact h3
      · rintro ⟨i, h1, h2, h3⟩
        obtain ⟨d, h4, h5⟩ := (Gm.star_iff hs fun b hb => hL b (List.mem_of_mem_take (List.mem_of_mem_drop hb))).1 h3
        rw [List.drop_drop] at h5
        simp at h4
        exact ⟨i + d, by omega, starR_iff.2 ⟨i, by omega, h2⟩, h5⟩
    | false =>
      simp only [Bool.false_eq_true, if_false]
      constructor
      · rintro ⟨j, h1, h2, h3⟩
        obtain ⟨i, rfl, h4, h5⟩ := oneR_iff.1 h2
        obtain ⟨b, hb⟩ := get_some (by omega : i < ws.length)
        have ht : (ws.take k)[i]? = some b := by rw [List.getElem?_take]; simp [hb]; omega
        exact ⟨i, by omega, h4, (Gm.one_iff hs).2 ⟨b, _, drop_get ht, (hf a i b hs hb).1 h5, h3⟩⟩
      · rintro ⟨i, h1, h2, h3⟩
        obtain ⟨b, v, h4, h5, h6⟩ := (Gm.one_iff hs).1 h3
        have hik : i < k := by
          have := congrArg List.length h4
          simp at this; omega
        obtain ⟨b', hb⟩ := get_some (by omega : i < ws.length)
        have ht : (ws.take k)[i]? = some b' := by rw [List.getElem?_take]; simp [hb]; omega
        rw [drop_get ht] at h4
        simp only [List.cons.injEq] at h4
        obtain ⟨rfl, rfl⟩ := h4
        exact ⟨i + 1, by omega, oneR_iff.2 ⟨i, rfl, h2, (hf a i b' hs hb).2 h5⟩, h6⟩

theorem runR_all (l : List α) : runR step l row0 ws.length = true ↔ Gm S L ok l ws := by
  rw [runR_iff hstep hL hf l row0 ws.length (Nat.le_refl _), List.take_length]
  constructor
  · rintro ⟨j, -, h1, h2⟩
    cases j with
    | zero => simpa using h2
    | succ j => simp [row0] at h1
  · intro h; exact ⟨0, Nat.zero_le _, rfl, by simpa using h⟩
end

/-! Bytes -/

def sB (b : UInt8) : Bool := b == 42
def okB (c x : UInt8) : Prop := c = 63 ∨ c = x
abbrev GB : Bs → Bs → Prop := Gm sB (fun _ => True) okB

theorem globV_iff (p s : Bs) : globV p s = true ↔ GB p s := by
  have e : ∀ (p : Bs) (r : Nat → Bool), globR s p r = runR (fun c r => stepR c s r) p r := by
    intro p
    induction p with
    | nil => intro r; rfl
    | cons c p ih => intro r; exact ih _
  unfold globV
  rw [e]
  refine runR_all (f := fun c i => c == 63 || c == s.getD i 0) (fun a r => ?_) (fun _ _ => trivial) (fun a i b _ hb => ?_) p
  · unfold stepR sB
    by_cases h : a = 42 <;> simp [h]
  · have : s.getD i 0 = b := by simp [List.getD_eq_getElem?_getD, hb]
    simp only [this]
    simp [okB]

/-! Elements -/

def sT (t : Bs) : Bool := t == [42, 42]
def okT (t w : Bs) : Prop := w ≠ [] ∧ GB t w
abbrev GP : List Bs → List Bs → Prop := Gm sT (fun w => w ≠ []) okT

theorem pathV_iff {l ws : List Bs} (hw : ∀ w ∈ ws, w ≠ []) : pathV l ws = true ↔ GP l ws := by
  have e : ∀ (l : List Bs) (r : Nat → Bool), pathR ws l r = runR (fun t r => stepM t ws r) l r := by
    intro l
    induction l with
    | nil => intro r; rfl
    | cons c p ih => intro r; exact ih _
  unfold pathV
  rw [e]
  refine runR_all (f := fun t i => globV t (ws.getD i [])) (fun a r => ?_) hw (fun a i b _ hb => ?_) l
  · unfold stepM sT
    by_cases h : a = [42, 42] <;> simp [h]
  · have : ws.getD i [] = b := by simp [List.getD_eq_getElem?_getD, hb]
    simp only [this]
    rw [globV_iff]
    exact ⟨fun h => ⟨hw b (List.mem_of_getElem? hb), h⟩, fun h => h.2⟩

/-! Without special bytes -/

theorem lit_match : ∀ {t w : Bs}, specV t = false → (GB t w ↔ w = t)
  | [], w, _ => Gm.nil_iff
  | b :: t, w, h => by
    simp only [specV, List.any_cons, Bool.or_eq_false_iff, specB] at h
    have e : GB (b :: t) w ↔ ∃ x v, w = x :: v ∧ okB b x ∧ GB t v := Gm.one_iff (show sB b = false from h.1.2)
    rw [e]
    have ih := @lit_match t
    constructor
    · rintro ⟨x, v, rfl, ho, hv⟩
      have := (ih h.2).1 hv
      rcases ho with ho | ho
      · subst ho; exact absurd h.1.1 (by decide)
      · subst ho; rw [this]
    · intro e; exact ⟨b, t, e, .inr rfl, (ih h.2).2 rfl⟩

theorem lit_path : ∀ {l ws : List Bs}, (∀ t ∈ l, specV t = false ∧ t ≠ []) → (GP l ws ↔ ws = l)
  | [], ws, _ => Gm.nil_iff
  | t :: l, ws, h => by
    have ht := h t (by simp)
    have hs : sT t = false := by
      unfold sT
      rw [beq_eq_false_iff_ne]
      intro e; rw [e] at ht; exact absurd ht.1 (by decide)
    have e : GP (t :: l) ws ↔ ∃ w v, ws = w :: v ∧ okT t w ∧ GP l v := Gm.one_iff hs
    rw [e]
    have ih := @lit_path l
    constructor
    · rintro ⟨w, v, rfl, ⟨ho1, ho2⟩, hv⟩
      rw [(ih fun x hx => h x (by simp [hx])).1 hv, (lit_match ht.1).1 ho2]
    · intro e; exact ⟨t, l, e, ⟨ht.2, (lit_match ht.1).2 rfl⟩, (ih fun x hx => h x (by simp [hx])).2 rfl⟩

/-- The text of elements. -/
def textP (l : List Bs) : Bs := l.flatMap fun t => 47 :: t

theorem joinC_text (p : Bs) (r : List Bs) : (47 :: joinC 47 p r : Bs) = textP (p :: r) := by
  simp [joinC, textP]

/-- A text is that of its elements; a slash, if it has none. -/
theorem parse_text {sp : Bool} {s : Bs} {l : List Bs} (h : parseV sp s = some l) : s = orS (textP l) := by
  obtain ⟨h1, h2⟩ := split_parse h
  unfold splitV at h1
  split at h1
  · rename_i e
    subst h1 e
    rfl
  · rename_i e
    cases s with
    | nil => simp at h2
    | cons b r =>
      have hb : b = 47 := by
        unfold parseV divV at h
        rw [if_neg e] at h
        simp only at h
        split at h
        · rename_i hc; exact hc.1
        · cases h
      subst hb
      simp only [List.drop_succ_cons, List.drop_zero] at h1
      obtain ⟨q, qs, g1, g2, -, -⟩ := join_parts 47 r
      rw [g1] at h1
      rw [← h1, ← joinC_text, ← g2]
      unfold orS
      rw [if_neg (by simp)]

theorem nameOk_facts {t : Bs} (h : nameOk t = true) : t ≠ [] ∧ specV t = false ∧ eltOk t = true := by
  unfold nameOk at h
  simp only [Bool.and_eq_true, Bool.not_eq_true', List.all_eq_true] at h
  have hne : t ≠ [] := List.isEmpty_eq_false_iff.1 h.1
  have h42 : ∀ b ∈ t, b ≠ 42 ∧ b ≠ 63 := by
    intro b hb
    have hp := h.2 b hb
    constructor
    · rintro rfl; exact absurd hp (by decide)
    · rintro rfl; exact absurd hp (by decide)
  have hs : specV t = false := by
    unfold specV
    rw [List.any_eq_false]
    intro b hb
    simp only [specB, Bool.or_eq_true, beq_iff_eq, not_or]
    exact ⟨(h42 b hb).2, (h42 b hb).1⟩
  have htw : ∀ s : Bs, (∀ b ∈ s, b ≠ 42) → twice 42 s = false := by
    intro s
    induction s with
    | nil => intro _; rfl
    | cons a s ih =>
      intro hh
      cases s with
      | nil => rfl
      | cons b s =>
        have ha : (a == 42) = false := by simpa using hh a (by simp)
        rw [twice, ih (fun x hx => hh x (by simp [hx])), ha]
        rfl
  refine ⟨hne, hs, ?_⟩
  unfold eltOk
  rw [htw t (fun b hb => (h42 b hb).1), h.1]
  have : (t.all fun b => pB b || b == 63 || b == 42) = true := by
    rw [List.all_eq_true]
    intro b hb
    rw [h.2 b hb]; rfl
  rw [this]
  simp

theorem path_pattern {s : Bs} {ws : List Bs} (h : parseV false s = some ws) : parseV true s = some ws ∧ ∀ t ∈ ws, t ≠ [] ∧ specV t = false := by
  obtain ⟨-, -, -, hall⟩ := parse_len h
  have hall' : ∀ t ∈ ws, nameOk t = true := by simpa [okOf, List.all_eq_true] using hall
  unfold parseV at h ⊢
  cases hd : divV s with
  | none => rw [hd] at h; cases h
  | some l =>
    rw [hd] at h
    simp only [Option.bind_some] at h ⊢
    split at h
    · simp only [Option.some.injEq] at h
      subst h
      have : l.all (okOf true) = true := by
        rw [List.all_eq_true]
        intro t ht
        exact (nameOk_facts (hall' t ht)).2.2
      rw [if_pos this]
      exact ⟨rfl, fun t ht => ⟨(nameOk_facts (hall' t ht)).1, (nameOk_facts (hall' t ht)).2.1⟩⟩
    · cases h

theorem stem_lit : ∀ {l : List Bs}, (∀ t ∈ l, specV t = false) → stemL l = textP l
  | [], _ => rfl
  | t :: l, h => by
    simp only [stemL, h t (by simp), Bool.false_eq_true, if_false, stem_lit (l := l) fun x hx => h x (by simp [hx])]
    simp [textP]

/-- A path matches a pattern without special bytes only if it is that. -/
theorem lit_law {p s : Bs} {l ws : List Bs} (hp : parseV false p = some l) (hs : parseV false s = some ws) : matchV p s = (p == s) := by
  obtain ⟨h1, h2⟩ := path_pattern hp
  obtain ⟨h3, h4⟩ := path_pattern hs
  have hm : matchV p s = pathV l ws := by unfold matchV; rw [h1, hs]
  rw [hm, Bool.eq_iff_iff, pathV_iff (fun w hw => (h4 w hw).1), lit_path (fun t ht => ⟨(h2 t ht).2, (h2 t ht).1⟩), beq_iff_eq]
  constructor
  · rintro rfl; rw [parse_text hp, parse_text hs]
  · rintro rfl; rw [hp] at hs; exact (Option.some.inj hs).symm

theorem deep_law {s : Bs} {ws : List Bs} (hs : parseV false s = some ws) : matchV [47, 42, 42] s = true := by
  obtain ⟨h3, h4⟩ := path_pattern hs
  have h1 : parseV true [47, 42, 42] = some [[42, 42]] := by decide
  have hm : matchV [47, 42, 42] s = pathV [[42, 42]] ws := by unfold matchV; rw [h1, hs]
  rw [hm, pathV_iff (fun w hw => (h4 w hw).1)]
  exact (Gm.star_iff (by decide) (fun w hw => (h4 w hw).1)).2 ⟨ws.length, Nat.le_refl _, by simp [Gm.nil_iff]⟩

theorem stem_path {s : Bs} {ws : List Bs} (hs : parseV false s = some ws) : stemP s = s := by
  obtain ⟨h3, h4⟩ := path_pattern hs
  unfold stemP
  rw [h3]
  simp only [stemV]
  rw [stem_lit fun t ht => (h4 t ht).2, ← parse_text hs]

/-- The law of patterns without special bytes. -/
theorem e8 {n : Nat} (hn : 100300 ≤ n) (aw : cpJ PR n 11 [] = some (.bool true)) (p s : Bs) :
    cpJ PR (n + 1) 8 [.str p, .str s] = some (.bool true) := by
  have hs := short2 (n := n) (by omega) p s
  rw [u8]
  cases hsh : shortV [p, s] with
  | false =>
    rw [hsh] at hs
    simp -implicitDefEqProofs [D8, hs, aw]
  | true =>
    rw [hsh] at hs
    have hle : p.length ≤ 300 ∧ s.length ≤ 300 := by simpa [shortV] using hsh
    have h1 := e18 (n := n) (by omega) s (by omega)
    by_cases c : chkV false s = 0
    · obtain ⟨ws, hws⟩ := chk_zero.1 c
      rw [c] at h1
      have h2 := e22 (n := n) (by omega) [47, 42, 42] s (by simp) (by omega)
      have h3 := e22 (n := n) (by omega) s s (by omega) (by omega)
      have h4 := e20 (n := n) (by omega) s (by omega)
      have h5 := e18 (n := n) (by omega) p (by omega)
      have h6 := e22 (n := n) (by omega) p s (by omega) (by omega)
      rw [deep_law hws] at h2
      rw [lit_law hws hws, beq_self_eq_true] at h3
      rw [stem_path hws] at h4
      by_cases c2 : chkV false p = 0
      · obtain ⟨l, hl⟩ := chk_zero.1 c2
        rw [c2] at h5
        rw [lit_law hl hws] at h6
        simp -implicitDefEqProofs [D8, hs, h1, h2, h3, h4, h5, h6, aw]
      · have c2' : (chkV false p != 0) = true := by simpa using c2
        simp -implicitDefEqProofs [D8, hs, h1, h2, h3, h4, h5, c2', aw]
    · have c' : (chkV false s != 0) = true := by simpa using c
      simp -implicitDefEqProofs [D8, hs, h1, c', aw]

/-! Stems -/

theorem stem_prefix {l ws : List Bs} (h : GP l ws) : ∃ r, textP ws = stemL l ++ r := by
  induction h with
  | nil => exact ⟨[], rfl⟩
  | star0 hs h ih =>
    rename_i t l w
    have : specV t = true := by unfold sT at hs; rw [eq_of_beq hs]; decide
    exact ⟨textP w, by simp [stemL, this]⟩
  | star1 hs hb h ih =>
    rename_i t l b w
    have : specV t = true := by unfold sT at hs; rw [eq_of_beq hs]; decide
    exact ⟨textP (b :: w), by simp [stemL, this]⟩
  | one hs ho h ih =>
    rename_i t l b w
    obtain ⟨r, hr⟩ := ih
    cases hsp : specV t with
    | true => exact ⟨textP (b :: w), by simp [stemL, hsp]⟩
    | false =>
      have : b = t := (lit_match hsp).1 ho.2
      subst this
      refine ⟨r, ?_⟩
      have e : textP (b :: w) = 47 :: b ++ textP w := by simp [textP]
      rw [e, hr]
      simp [stemL, hsp]

theorem stem_law {p s : Bs} (h : matchV p s = true) : 0 < (stemP p).length ∧ (stemP p).length ≤ s.length ∧ s.take (stemP p).length = stemP p := by
  unfold matchV at h
  cases c1 : parseV true p with
  | none => rw [c1] at h; cases h
  | some l =>
    rw [c1] at h
    cases c2 : parseV false s with
    | none => rw [c2] at h; cases h
    | some ws =>
      rw [c2] at h
      obtain ⟨h3, h4⟩ := path_pattern c2
      have hg := (pathV_iff (fun w hw => (h4 w hw).1)).1 h
      obtain ⟨r, hr⟩ := stem_prefix hg
      have hst : stemP p = orS (stemL l) := by unfold stemP; rw [c1]; rfl
      have hs := parse_text c2
      rw [hst]
      unfold orS
      by_cases e : stemL l = []
      · rw [if_pos e]
        have hb : ∃ q, s = 47 :: q := by
          rw [hs]
          unfold orS
          cases ws with
          | nil => exact ⟨[], rfl⟩
          | cons w ws => exact ⟨w ++ textP ws, by rw [if_neg (by simp [textP])]; simp [textP]⟩
        obtain ⟨q, rfl⟩ := hb
        simp
      · rw [if_neg e]
        have hne : textP ws ≠ [] := by rw [hr]; simp [e]
        have hs' : s = stemL l ++ r := by rw [hs]; unfold orS; rw [if_neg hne, hr]
        have : 0 < (stemL l).length := by
          cases hh : stemL l with
          | nil => exact absurd hh e
          | cons a b => simp
        rw [hs']
        simp; omega

/-- The law of stems. -/
theorem e9 {n : Nat} (hn : 100300 ≤ n) (aw : cpJ PR n 11 [] = some (.bool true)) (p s : Bs) :
    cpJ PR (n + 1) 9 [.str p, .str s] = some (.bool true) := by
  have hs := short2 (n := n) (by omega) p s
  rw [u9]
  cases hsh : shortV [p, s] with
  | false =>
    rw [hsh] at hs
    simp -implicitDefEqProofs [D9, hs, aw]
  | true =>
    rw [hsh] at hs
    have hle : p.length ≤ 300 ∧ s.length ≤ 300 := by simpa [shortV] using hsh
    have h1 := e22 (n := n) (by omega) p s (by omega) (by omega)
    cases hm : matchV p s with
    | false =>
      rw [hm] at h1
      simp -implicitDefEqProofs [D9, hs, h1, aw]
    | true =>
      rw [hm] at h1
      have h2 := e20 (n := n) (by omega) p (by omega)
      obtain ⟨q1, q2, q3⟩ := stem_law hm
      have q1' : (0 : Int) < (stemP p).length := by omega
      have q2' : ((stemP p).length : Int) ≤ s.length := by omega
      simp -implicitDefEqProofs [D9, hs, h1, h2, q1, q1', q2, q2', q3, aw]

end Go.Proofs.YtdnoonnanhnkaaaDoor
