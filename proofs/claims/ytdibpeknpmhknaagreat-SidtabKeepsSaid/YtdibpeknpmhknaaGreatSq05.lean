/- Texts of this proof, part 5: see the card for what is proved. -/
import Derived.Test.YtdibpeknpmhknaaGreatSq02
import Derived.OpenShut
import Derived.Carry
import Derived.DataReads
import Derived.Shelf.Vars
import Derived.Test.YtdibpeknpmhknaaGreatSq03
set_option linter.unusedVariables false
set_option linter.unusedSimpArgs false
set_option maxRecDepth 20000
set_option maxHeartbeats 2000000
namespace Go.Proofs.YtdibpeknpmhknaaGreat
open Go Go.RowKit
inductive Zs where
 | nil
 | empt
 | full
 | lit
deriving DecidableEq
def slD (z : Zs) (sz : Nat) (es : List (List Qa)) : Qa :=
 match z with
 | .nil => match es with
  | [] => .nils
  | e :: es => .slice false 0 sz (e :: es)
 | .empt => match es with
  | [] => .empt
  | e :: es => .slice false 0 sz (e :: es)
 | .full => .slice false 0 sz es
 | .lit => .slice false 1 sz es
def YA (P : Program) (rec : TypeId → Bool) (off : Nat) : List Field → Option Nat
 | [] => some off
 | f :: fs => if f.offset = off && rec f.type then YA P rec (off + P.cellsOf f.type) fs else none
def E6 (P : Program) (S : List TypeId) (t : TypeId) : Bool :=
 match P.underlying t with
 | some .bool | some (.int _) | some .string => true
 | some (.slice e) => S.contains e && Nat.blt 0 (P.cellsOf e)
 | some (.array len e) => S.contains e && Nat.beq (P.cellsOf t) (len * P.cellsOf e)
 | some (.struct fs) => match YA P S.contains 0 fs.toList with
  | some k => Nat.beq k (P.cellsOf t)
  | none => false
 | _ => false
def JU (P : Program) (S : List TypeId) : Bool := S.all (E6 P S)
def DTy (P : Program) : Nat → TypeId → List Qa → Prop
 | 0, _, _ => False
 | n + 1, t, cs => match P.underlying t with
  | some .bool => ∃ b, cs = [.bool b]
  | some (.int k) => ∃ i, cs = [.int k i] ∧ (Lit.int k i).wf = true
  | some .string => ∃ s, cs = [.str s] ∧ s.length ≤ maxLen
  | some (.slice e) => ∃ z es, cs = [slD z (P.cellsOf e) es] ∧ (∀ r ∈ es, DTy P n e r) ∧ es.length ≤ maxLen
  | some (.array len e) => ∃ rows : List (List Qa), rows.length = len ∧ (∀ r ∈ rows, DTy P n e r) ∧ cs = rows.flatten
  | some (.struct fs) => fs.toList.foldr (fun f K cs => ∃ a b, cs = a ++ b ∧ DTy P n f.type a ∧ K b) (λcs=> cs = []) cs
  | _ => False
def XA (P : Program) (k : Nat) (t : TypeId) (d : Qa) : Prop :=
 match P.underlying t with
 | some (.struct _) | some (.array _ _) => ∃ cs, d = .agg cs ∧ DTy P k t cs
 | _ => DTy P k t [d]
def Yk (P : Program) (k : Nat) : List TypeId → List Qa → Prop
 | [], ds => ds = []
 | t :: ts, ds => ∃ d es, ds = d :: es ∧ XA P k t d ∧ Yk P k ts es
section
variable {H : Type} {enc : TypeId × Value → H} {P : Program} {w : World} {spare : Nat → Bool} {held : Bool}
def oldI (w : World) (b n : Nat) : Prop := b < w.heap.size
theorem imm_old {b n : Nat} : (VI (oldI w) w.heap.size).imm b n ↔ b < w.heap.size := by rw [Ys]; exact ⟨λh=> h.1, λh=> ⟨h, h⟩⟩
abbrev VO (w : World) : Vw := VI (oldI w) w.heap.size
theorem Jb {b : Nat} : ∀ {ds : List Qa} {cs : List Value} {off : Nat}, (∀ i v, cs[i]? = some v → w.cell? ⟨b, off + i, none⟩ = some v) → (∀ v ∈ cs, v.oneCell' = true) → (0 < cs.length → b < w.heap.size) → Qo (VO w) w 2 ds cs → Zd (VO w) w 2 b off ds
 | [], cs, off, _, _, _, _ => by simp only [Zd]
 | d :: ds, cs, off, hc, h1, hb, h => by
  simp only [Qo] at h
  obtain ⟨v, us, rfl, hv, hr⟩ := h
  simp only [Zd]
  refine ⟨imm_old.2 (hb (by simp)), ⟨v, hc 0 v rfl, h1 v (by simp), hv⟩, ?_⟩
  refine Jb (cs := us) (fun i u hu => ?_) (fun u hu => h1 u (by simp [hu])) (λ_=> hb (by simp)) hr
  have := hc (i + 1) u (by simpa using hu)
  rwa [show off + 1 + i = off + (i + 1) by omega]
theorem array_cells {D : List Qa → Prop} {w : World} {cs : List Value} {n c : Nat} (hl : cs.length = n * c)
  (h : ∀ i, i < n → ∃ ds, D ds ∧ Qo (VO w) w 2 ds ((cs.drop (i * c)).take c) ∧ ∀ v ∈ (cs.drop (i * c)).take c, v.oneCell' = true) :
  ∃ rows : List (List Qa), rows.length = n ∧ (∀ r ∈ rows, D r) ∧ Qo (VO w) w 2 rows.flatten cs ∧ ∀ v ∈ cs, v.oneCell' = true := by
 have key : ∀ m, m ≤ n → ∃ rows : List (List Qa), rows.length = m ∧ (∀ r ∈ rows, D r) ∧ Qo (VO w) w 2 rows.flatten (cs.drop ((n - m) * c)) ∧ ∀ v ∈ cs.drop ((n - m) * c), v.oneCell' = true := by
  intro m
  induction m with
  | zero =>
   intro _
   have : cs.drop ((n - 0) * c) = [] := List.drop_of_length_le (by rw [Nat.sub_zero, hl]; exact Nat.le_refl _)
   rw [this]
   exact ⟨[], rfl, by simp, by simp [Qo], by simp⟩
  | succ m ih =>
   intro hm
   obtain ⟨rows, r1, r2, r3, r4⟩ := ih (by omega)
   obtain ⟨ds, d1, d2, d3⟩ := h (n - (m + 1)) (by omega)
   have e : (n - (m + 1)) * c + c = (n - m) * c := by rw [show n - m = (n - (m + 1)) + 1 by omega, Nat.add_mul]; omega
   have hsplit : cs.drop ((n - (m + 1)) * c) = (cs.drop ((n - (m + 1)) * c)).take c ++ cs.drop ((n - m) * c) := by
    rw [← e, ← List.drop_drop, List.take_append_drop]
   refine ⟨ds :: rows, by simp [r1], by simpa using ⟨d1, r2⟩, ?_, ?_⟩
   ·rw [hsplit, List.flatten_cons]; exact d2.append r3
   ·rw [hsplit]
    intro v hv
    rcases List.mem_append.1 hv with hv | hv
    ·exact d3 v hv
    ·exact r4 v hv
 have := key n (Nat.le_refl _)
 simpa using this
theorem J2 {rec : TypeId → Bool} {D : TypeId → List Qa → Prop} {w : World} {cs : List Value} :
  ∀ (fs : List Field) (off k : Nat), YA P rec off fs = some k → off ≤ cs.length → k = cs.length →
   (∀ f, f ∈ fs → rec f.type = true → f.offset + P.cellsOf f.type ≤ cs.length → ∃ ds, D f.type ds ∧ Qo (VO w) w 2 ds ((cs.drop f.offset).take (P.cellsOf f.type)) ∧ ∀ v ∈ (cs.drop f.offset).take (P.cellsOf f.type), v.oneCell' = true) →
   ∃ ds, fs.foldr (fun f K cs => ∃ a b, cs = a ++ b ∧ D f.type a ∧ K b) (λcs=> cs = []) ds ∧ Qo (VO w) w 2 ds (cs.drop off) ∧ ∀ v ∈ cs.drop off, v.oneCell' = true
 | [], off, k, h, hle, hk, _ => by
  simp only [YA, Option.some.injEq] at h
  subst h hk
  rw [List.drop_length]
  exact ⟨[], rfl, by simp [Qo], by simp⟩
 | f :: fs, off, k, h, hle, hk, hf => by
  simp only [YA] at h
  split at h
  ·rename_i hc
   simp only [Bool.and_eq_true, decide_eq_true_eq] at hc
   obtain ⟨rfl, hr⟩ := hc
   have hkle : ∀ (gs : List Field) (o q : Nat), YA P rec o gs = some q → o ≤ q := by
    intro gs
    induction gs with
    | nil => intro o q h; simp only [YA, Option.some.injEq] at h; omega
    | cons g gs ih =>
     intro o q h
     simp only [YA] at h
     split at h
     ·have := ih _ _ h; omega
     ·cases h
   have hle2 : f.offset + P.cellsOf f.type ≤ cs.length := by have := hkle _ _ _ h; omega
   obtain ⟨ds1, a1, a2, a3⟩ := hf f (by simp) hr hle2
   obtain ⟨ds2, b1, b2, b3⟩ := J2 fs _ k h hle2 hk (fun g hg => hf g (by simp [hg]))
   have hsplit : cs.drop f.offset = (cs.drop f.offset).take (P.cellsOf f.type) ++ cs.drop (f.offset + P.cellsOf f.type) := by
    rw [← List.drop_drop, List.take_append_drop]
   refine ⟨ds1 ++ ds2, ⟨ds1, ds2, rfl, a1, b1⟩, ?_, ?_⟩
   ·rw [hsplit]; exact a2.append b2
   ·rw [hsplit]
    intro v hv
    rcases List.mem_append.1 hv with hv | hv
    ·exact a3 v hv
    ·exact b3 v hv
  ·cases h
theorem HW {S : List TypeId} (hS : JU P S = true) : ∀ (k : Nat) (t : TypeId), t ∈ S → ∀ (cs : List Value) (x : DataW H × List MemPlace), DataW.trod enc P w 0 (λ_=> true) held k t cs = some x →
  ∃ ds, DTy P k t ds ∧ Qo (VO w) w 2 ds cs ∧ ∀ v ∈ cs, v.oneCell' = true
 | 0, t, _, _, _, h => by simp [DataW.trod] at h
 | k + 1, t, ht, cs, x, h => by
  have ih := HW hS k
  have hp : E6 P S t = true := by
   unfold JU at hS
   rw [List.all_eq_true] at hS
   exact hS t ht
  unfold E6 at hp
  unfold DTy
  split at hp
  ·rename_i hu
   obtain ⟨b, rfl, -⟩ := DataW.trod_bool hu h
   exact ⟨[.bool b], ⟨b, rfl⟩, ⟨_, [], rfl, by simp [Qn], by simp [Qo]⟩, by simp [Value.oneCell']⟩
  ·rename_i kk hu
   obtain ⟨n, rfl, -, hw⟩ := DataW.trod_int hu h
   exact ⟨[.int kk n], ⟨n, rfl, hw⟩, ⟨_, [], rfl, by simp [Qn], by simp [Qo]⟩, by simp [Value.oneCell']⟩
  ·rename_i hu
   obtain ⟨s, rfl, -, hs⟩ := DataW.trod_string hu h
   exact ⟨[.str s.data.toList], ⟨_, rfl, by rw [Array.length_toList]; exact hs⟩, ⟨_, [], rfl, by simp [Qn], by simp [Qo]⟩, by simp [Value.oneCell']⟩
  ·rename_i e hu
   simp only [Bool.and_eq_true, Nat.blt_eq, List.contains_iff_mem] at hp
   rcases DataW.trod_slice hu h with ⟨rfl, -⟩ | ⟨a, len, cap, elems, rest, n, hn, rfl, rfl, -, hlc, hcap, hlen, hel, hrest, -⟩
   ·exact ⟨[.nils], ⟨.nil, [], rfl, by simp, Nat.zero_le _⟩, ⟨_, [], rfl, by simp [Qn], by simp [Qo]⟩, by simp [Value.oneCell']⟩
   ·obtain rfl : n = k := by omega
    by_cases h0 : cap = 0
    ·subst h0
     obtain rfl : len = 0 := by omega
     exact ⟨[.empt], ⟨.empt, [], rfl, by simp, Nat.zero_le _⟩, ⟨_, [], rfl, by simp [Qn], by simp [Qo]⟩, by simp [Value.oneCell']⟩
    have hspot : a.spot = none := by
     have hread : ∃ cs', w.cells? 0 (a.add (0 * P.cellsOf e)) (P.cellsOf e) = some cs' := by
      by_cases hl0 : len = 0
      ·have := (hrest rfl).2 0 (by omega)
       have hl := (hrest rfl).1
       rw [List.getElem?_eq_getElem (by omega), Option.bind_eq_some_iff] at this
       obtain ⟨cs', hc', -⟩ := this
       exact ⟨cs', by simpa [hl0] using hc'⟩
      ·have := hel 0 (by omega)
       rw [List.getElem?_eq_getElem (by omega), Option.bind_eq_some_iff] at this
       obtain ⟨cs', hc', -⟩ := this
       exact ⟨cs', hc'⟩
     obtain ⟨cs', hc'⟩ := hread
     obtain ⟨-, hl', hget⟩ := World.cells?_some hc'
     have := hget 0 hp.2
     rw [List.getElem?_eq_getElem (by omega)] at this
     have := World.cell?_spot this
     simpa [Addr.add] using this
    obtain ⟨b, off, spot⟩ := a
    simp only at hspot
    subst hspot
    have key : ∀ m, m ≤ len → ∃ es : List (List Qa), es.length = m ∧ (∀ r ∈ es, DTy P n e r) ∧ QC (VO w) w 2 b (P.cellsOf e) (off + (len - m) * P.cellsOf e) es := by
     intro m
     induction m with
     | zero => intro _; exact ⟨[], rfl, by simp, by simp only [QC]⟩
     | succ m ihm =>
      intro hm
      obtain ⟨es, e1, e2, e3⟩ := ihm (by omega)
      have hi := hel (len - (m + 1)) (by omega)
      have hlt : len - (m + 1) < elems.length := by omega
      rw [List.getElem?_eq_getElem hlt, Option.bind_eq_some_iff] at hi
      obtain ⟨cs', hc', ht'⟩ := hi
      obtain ⟨ds, d1, d2, d3⟩ := ih e hp.1 cs' _ ht'
      obtain ⟨-, hl', hget⟩ := World.cells?_some hc'
      have hcell : ∀ i v, cs'[i]? = some v → w.cell? ⟨b, off + (len - (m + 1)) * P.cellsOf e + i, none⟩ = some v := by
       intro i v hv
       have hi' : i < P.cellsOf e := by rw [← hl']; exact (List.getElem?_eq_some_iff.1 hv).1
       have := hget i hi'
       rw [hv] at this
       rw [← this]
       congr 1
       simp only [Addr.add]
       split <;> split <;> simp_all <;> omega
      have hb : 0 < cs'.length → b < w.heap.size := by
       intro h0
       have := hcell 0 cs'[0] (by rw [List.getElem?_eq_getElem h0])
       unfold World.cell? at this
       simp only at this
       split at this
       ·rename_i hh; exact (Array.getElem?_eq_some_iff.1 hh).1
       ·cases this
      have hrow := Jb (w := w) (b := b) (off := off + (len - (m + 1)) * P.cellsOf e) hcell d3 hb d2
      refine ⟨ds :: es, by simp [e1], by simpa using ⟨d1, e2⟩, ?_⟩
      simp only [QC]
      refine ⟨by rw [← d2.length, hl'], hrow, ?_⟩
      have : off + (len - (m + 1)) * P.cellsOf e + P.cellsOf e = off + (len - m) * P.cellsOf e := by
       rw [show len - m = (len - (m + 1)) + 1 by omega, Nat.add_mul]; omega
      rw [this]
      exact e3
    obtain ⟨es, e1, e2, e3⟩ := key len (Nat.le_refl _)
    have hsl : slD .full (P.cellsOf e) es = .slice false 0 (P.cellsOf e) es := by cases es <;> rfl
    refine ⟨[.slice false 0 (P.cellsOf e) es], ⟨.full, es, by rw [hsl], e2, by omega⟩, ⟨_, [], rfl, ?_, by simp [Qo]⟩, by simp [Value.oneCell']⟩
    simp only [Qn]
    refine ⟨.inr ⟨trivial, by omega⟩, b, off, cap, by rw [e1], by omega, ⟨by omega, by omega, by omega⟩, ?_⟩
    simpa [X0] using e3
  ·rename_i len e hu
   simp only [Bool.and_eq_true, List.contains_iff_mem] at hp
   have hp2 := Nat.eq_of_beq_eq_true hp.2
   obtain ⟨xs, n, hn, rfl, hlen, hxs, hget⟩ := DataW.trod_array hu h
   obtain rfl : n = k := by omega
   obtain ⟨rows, r1, r2, r3, r4⟩ := array_cells (D := DTy P n e) (w := w) (cs := cs) (n := len) (c := P.cellsOf e) (by omega) (fun i hi => by
    have hx := hget i hi
    rw [List.getElem?_eq_getElem (by omega)] at hx
    exact ih e hp.1 _ _ hx)
   exact ⟨rows.flatten, ⟨rows, r1, r2, rfl⟩, r3, r4⟩
  ·rename_i fs hu
   split at hp
   ·rename_i q hq
    have hq' := Nat.eq_of_beq_eq_true hp
    obtain ⟨xs, n, hn, rfl, hlen, hxs, hget⟩ := DataW.trod_struct hu h
    obtain rfl : n = k := by omega
    have := J2 (P := P) (rec := S.contains) (D := DTy P n) (w := w) (cs := cs) fs.toList 0 q hq (Nat.zero_le _) (by omega) (by
     intro f hf hr _
     obtain ⟨i, hi⟩ := List.getElem?_of_mem hf
     rw [Array.getElem?_toList] at hi
     have hx := hget i f hi
     have hix : i < xs.length := by rw [hxs]; exact (Array.getElem?_eq_some_iff.1 hi).1
     rw [List.getElem?_eq_getElem hix] at hx
     exact ih f.type (List.contains_iff_mem.1 hr) _ _ hx)
    simpa using this
   ·cases hp
  ·cases hp
theorem Yi : ∀ {k m : Nat} {t : TypeId} {cs : List Qa}, k ≤ m → DTy P k t cs → DTy P m t cs
 | 0, _, _, _, _, h => h.elim
 | k + 1, m, t, cs, hm, h => by
  obtain ⟨m, rfl⟩ : ∃ q, m = q + 1 := ⟨m - 1, by omega⟩
  have ih : ∀ {t : TypeId} {cs : List Qa}, DTy P k t cs → DTy P m t cs := λh=> Yi (by omega) h
  unfold DTy at h ⊢
  split at h
  ·exact h
  ·exact h
  ·exact h
  ·obtain ⟨z, es, h1, h2, h3⟩ := h
   exact ⟨z, es, h1, fun r hr => ih (h2 r hr), h3⟩
  ·obtain ⟨rows, h1, h2, h3⟩ := h
   exact ⟨rows, h1, fun r hr => ih (h2 r hr), h3⟩
  ·rename_i fs hu
   have key : ∀ (fs : List Field) (cs : List Qa), fs.foldr (fun f K cs => ∃ a b, cs = a ++ b ∧ DTy P k f.type a ∧ K b) (λcs=> cs = []) cs → fs.foldr (fun f K cs => ∃ a b, cs = a ++ b ∧ DTy P m f.type a ∧ K b) (λcs=> cs = []) cs := by
    intro fs
    induction fs with
    | nil => exact fun cs h => h
    | cons f fs ihf =>
     rintro cs ⟨a, b, h1, h2, h3⟩
     exact ⟨a, b, h1, ih h2, ihf b h3⟩
   exact key _ _ h
  ·exact h.elim
theorem X9 {k m : Nat} {t : TypeId} {d : Qa} (hm : k ≤ m) (h : XA P k t d) : XA P m t d := by
 unfold XA at h ⊢
 split at h
 ·obtain ⟨cs, h1, h2⟩ := h; exact ⟨cs, h1, Yi hm h2⟩
 ·obtain ⟨cs, h1, h2⟩ := h; exact ⟨cs, h1, Yi hm h2⟩
 ·exact Yi hm h
theorem Jy {k m : Nat} (hm : k ≤ m) : ∀ {ts : List TypeId} {ds : List Qa}, Yk P k ts ds → Yk P m ts ds
 | [], _, h => h
 | _ :: _, _, ⟨d, es, h1, h2, h3⟩ => ⟨d, es, h1, X9 hm h2, Jy hm h3⟩
theorem arg_rel {S : List TypeId} (hS : JU P S = true) {t : TypeId} (ht : t ∈ S) {v : Value} {d : DataW H} {p : List MemPlace} {base : Nat} (hok : Value.okWide P w .any base t v)
  (h : DataW.Trod enc P w 0 (λ_=> true) held t v d p) : ∃ k D, XA P k t D ∧ Qn (VO w) w 2 D v := by
 obtain ⟨fuel, h⟩ := h
 obtain ⟨ds, h1, h2, h3⟩ := HW hS fuel t ht _ _ h
 have hp : E6 P S t = true := by
  unfold JU at hS
  rw [List.all_eq_true] at hS
  exact hS t ht
 have hagg : (∃ cs, v = .agg cs) → ∃ D, D = .agg ds ∧ Qn (VO w) w 2 D v := by
  rintro ⟨cs, rfl⟩
  refine ⟨.agg ds, rfl, ?_⟩
  simp only [Qn]; exact ⟨cs, rfl, h2⟩
 by_cases hs : (∃ fs, P.underlying t = some (.struct fs)) ∨ ∃ n e, P.underlying t = some (.array n e)
 ·obtain ⟨D, rfl, hD⟩ := hagg (by
   unfold Value.okWide at hok
   rcases hs with ⟨fs, hs⟩ | ⟨n, e, hs⟩ <;> rw [hs] at hok <;> obtain ⟨cs, rfl, -⟩ := hok <;> exact ⟨cs, rfl⟩)
  refine ⟨fuel, .agg ds, ?_, hD⟩
  unfold XA
  rcases hs with ⟨fs, hs⟩ | ⟨n, e, hs⟩ <;> rw [hs] <;> exact ⟨ds, rfl, h1⟩
 ·have hs1 : ∀ fs, P.underlying t ≠ some (.struct fs) := fun fs e => hs (.inl ⟨fs, e⟩)
  have hs2 : ∀ n e, P.underlying t ≠ some (.array n e) := fun n e he => hs (.inr ⟨n, e, he⟩)
  have hok' : Cell.okWide P w .any base t v := by
   unfold Value.okWide at hok
   split at hok
   ·rename_i fs e; exact absurd e (hs1 fs)
   ·rename_i n e he; exact absurd he (hs2 n e)
   ·exact hok
  have hv : v.cells.toList = [v] := by
   cases v with
   | agg cs =>
    exfalso
    unfold Cell.okWide Cell.ok at hok'
    cases hu : P.underlying t with
    | none => rw [hu] at hok'; exact hok'
    | some d => rw [hu] at hok'; unfold E6 at hp; rw [hu] at hp; cases d <;> simp at hok' hp
   | _ => rfl
  rw [hv] at h2
  have hl := h2.length
  match ds, hl, h1, h2 with
  | [D], _, h1, h2 =>
   refine ⟨fuel, D, ?_, ?_⟩
   ·unfold XA
    split
    ·rename_i fs e; exact absurd e (hs1 fs)
    ·rename_i n e he; exact absurd he (hs2 n e)
    ·exact h1
   ·simp only [Qo] at h2
    obtain ⟨u, us, e, h3, -⟩ := h2
    simp only [List.cons.injEq] at e
    rw [e.1]; exact h3
theorem args_rel {S : List TypeId} (hS : JU P S = true) {base : Nat} : ∀ {ts : List TypeId} {vs : List Value} {ds : List (DataW H)} {p : List MemPlace}, ts.all S.contains = true → (∀ (j : Nat) t v, ts[j]? = some t → vs[j]? = some v → Value.okWide P w .any base t v) →
  DataW.TrodAll enc P w 0 (λ_=> true) held ts vs ds p → ∃ k Ds, Yk P k ts Ds ∧ Qo (VO w) w 2 Ds vs
 | [], [], [], p, _, _, h => ⟨0, [], rfl, by simp [Qo]⟩
 | t :: ts, v :: vs, d :: ds, p, hp, hok, h => by
  simp only [List.all_cons, Bool.and_eq_true, List.contains_iff_mem] at hp
  obtain ⟨p1, q1, h1, h2, -⟩ := h
  obtain ⟨k1, D, a1, a2⟩ := arg_rel hS hp.1 (hok 0 t v rfl rfl) h1
  obtain ⟨k2, Ds, b1, b2⟩ := args_rel hS (by simpa using hp.2) (fun j t v ht hv => hok (j + 1) t v (by simpa using ht) (by simpa using hv)) h2
  exact ⟨k1 + k2, D :: Ds, ⟨D, Ds, rfl, X9 (by omega) a1, Jy (by omega) b1⟩, ⟨v, vs, rfl, a2, b2⟩⟩
 | [], _ :: _, _, _, _, _, h => h.elim
 | [], [], _ :: _, _, _, _, h => h.elim
 | _ :: _, [], _, _, _, _, h => h.elim
 | _ :: _, _ :: _, [], _, _, _, h => h.elim
theorem Us (hl : laidOutB P = true) {W' : World} (hb : Below w.heap.size w W') {sp : Nat → Bool} : ∀ {ts : List TypeId} {vs : List Value} {ds : List (DataW H)} {p : List MemPlace}, (∀ t, t ∈ ts → P.readableRec t = true ∧ t < P.types.size) →
  DataW.TrodAll enc P w 0 (λ_=> true) true ts vs ds p → (∀ x ∈ p, x.block < w.heap.size) → (∀ x ∈ p, sp x.block = true) → DataW.TrodAll enc P W' 0 sp true ts vs ds p
 | [], [], [], p, _, h, _, _ => h
 | t :: ts, v :: vs, d :: ds, p, ht, h, hlt, hsp => by
  obtain ⟨p1, q1, h1, h2, rfl⟩ := h
  exact ⟨p1, q1, WideElems.Trod_stays hl (ht t (by simp)).1 (ht t (by simp)).2 h1 (fun x hx => hb.same (hlt x (by simp [hx]))) (fun x hx => hsp x (by simp [hx])),
   Us hl hb (fun u hu => ht u (by simp [hu])) h2 (fun x hx => hlt x (by simp [hx])) (fun x hx => hsp x (by simp [hx])), rfl⟩
 | [], _ :: _, _, _, _, h, _, _ => h.elim
 | [], [], _ :: _, _, _, h, _, _ => h.elim
 | _ :: _, [], _, _, _, h, _, _ => h.elim
 | _ :: _, _ :: _, [], _, _, h, _, _ => h.elim
theorem post_of_true {fn : Func} {s : ChangeSpec} {apart fresh handsOn again : Bool} {W' : World} {args : Array Value} {ds gs : List (DataW H)} {before : List MemPlace} {tb : TypeId}
  (hW : DataW.Whole enc P fn.params.toList s.vars apart w args.toList ds gs before) (hvars : s.vars = []) (hres : fn.resultTypes = #[tb]) (htb : P.underlying tb = some .bool)
  (hspec : s.fn H (ds ++ gs) = { results := [.lit (.bool true)], args := ds, vars := [] }) (hl : laidOutB P = true) (ht : ∀ t, t ∈ fn.params.toList → P.readableRec t = true ∧ t < P.types.size) (hb : Below w.heap.size w W') :
  s.post enc P fn apart fresh handsOn again w args (.bool true) W' := by
 obtain ⟨p, q, hA, hV, hpq, hz, hn⟩ := id hW
 rw [hvars] at hV
 have hq : gs = [] ∧ q = [] := by
  cases gs with
  | nil => exact ⟨rfl, hV⟩
  | cons g gs => exact hV.elim
 obtain ⟨rfl, rfl⟩ := hq
 rw [List.append_nil] at hpq hspec
 subst hpq
 have hlt := hW.lt
 have hargs : ∀ sp : Nat → Bool, (∀ x ∈ before, sp x.block = true) → DataW.TrodAll enc P W' 0 sp true fn.params.toList args.toList ds before := fun sp hsp => Us hl hb ht hA hlt hsp
 have hr : ∀ (b : Nat) (sp : Nat → Bool) (hd : Bool), DataW.TrodAll enc P W' b sp hd fn.resultTypes.toList ((Value.bool true).resultList fn.resultTypes.size) [.lit (.bool true)] [] := by
  intro b sp hd
  rw [hres]
  exact ⟨[], [], shut_bool htb true, rfl, rfl⟩
 have hold : ∀ x ∈ before, (λb=> decide (b < w.heap.size)) x.block = true := fun x hx => by simpa using hlt x hx
 have hvv : ∀ sp, DataW.TrodVars enc P W' sp s.vars [] [] := λsp=> by rw [hvars]; rfl
 refine ⟨ds, [], before, [], before, [], hW, by simpa [hspec] using hr _ _ _, by simpa [hspec] using hargs _ hold, by simpa [hspec] using hvv _, World.keptBut_mono (fun x hx => ⟨hx, by simpa using hx⟩) (hb.frame (· ∈ before)), λ_=> ?_⟩
 refine ⟨ok_one hres rfl (okWide_bool_mk htb true), [.lit (.bool true)] ++ ds, [], before, ⟨before, [], ?_, hvv _, by simp, ?_, ?_⟩, ?_⟩
 ·simpa [hspec] using ChangeShapes.trodAll_append (hargs _ (fun _ _ => rfl)) (hr 0 (λ_=> true) true)
 ·intro b off hx
  rw [hb.frozen (p := ⟨b, off, none⟩) (hlt _ hx)]
  exact hz b off hx
 ·intro ha; exact hn ha
 ·intro x hx _; exact hx
end
end Go.Proofs.YtdibpeknpmhknaaGreat
namespace Go.Proofs.YtdibpeknpmhknaaGreat
open Go
theorem WG {x : Int} (h0 : 0 ≤ x) (h1 : x < 18446744073709551616) : IntKind.u64.wrap x = x := by
 simp -implicitDefEqProofs [IntKind.wrap, IntKind.bits, IntKind.signed]
 omega
theorem Ze {x : Int} (h0 : -9223372036854775808 ≤ x) (h1 : x < 9223372036854775808) : IntKind.i64.wrap x = x := by
 simp -implicitDefEqProofs [IntKind.wrap, IntKind.bits, IntKind.signed]
 omega
theorem Z3 {i : Nat} (h : i < 1000000000000) : IntKind.i64.wrap ((i : Int) + 1) = ((i + 1 : Nat) : Int) := by rw [Ze (by omega) (by omega)]; rfl
@[simp] theorem nn1 (j : Nat) : ((0 : Int) ≤ (j : Int) + 1) = True := eq_true (by omega)
@[simp] theorem np1 (j : Nat) : ((0 : Int) < (j : Int) + 1) = True := eq_true (by omega)
@[simp] theorem ne1 (j : Nat) : (((j : Int) + 1) == 0) = false := beq_eq_false_iff_ne.2 (by omega)
@[simp] theorem nl1 (j : Nat) : ((j : Int) + 1 < 0) = False := eq_false (by omega)
theorem YO {x y : List UInt8} (h : x.length + y.length ≤ 4611686018427387904) : QW .add x y = some (.str (x ++ y)) := by
 simp only [QW, h, if_true]
@[simp] theorem wnP_undef (b : Bool) (o : Kt (Option Qa)) : @wnP .undef b o = some .undef := by simp [wnP, wantP, Qa.isB]
@[simp] theorem wnS_undef (b : Bool) (σ : Sto) (o : Kt (Option (Qa × Sto))) : @wnS .undef b σ o = some (.undef, σ) := by simp [wnS, wantS, Qa.isB]
@[simp] theorem wnS_gt (q : Prop) (c : Bool) (σ : Sto) (o : Kt (Option (Qa × Sto))) : @wnS (gv q (.bool c)) true σ o = XL (q ∧ c = true) o.f (some (.undef, σ)) := by
 by_cases h : q <;> cases c <;> simp [h, wnS, wantS, Qa.isB]
@[simp] theorem wnS_gf (q : Prop) (c : Bool) (σ : Sto) (o : Kt (Option (Qa × Sto))) : @wnS (gv q (.bool c)) false σ o = XL (q ∧ c = false) o.f (some (.undef, σ)) := by
 by_cases h : q <;> cases c <;> simp [h, wnS, wantS, Qa.isB]
section
variable {z : Zs} {sz : Nat} {es : List (List Qa)}
theorem ZH (z : Zs) (sz : Nat) (es : List (List Qa)) : (slD z sz es = .nils ∧ es = []) ∨ (slD z sz es = .empt ∧ es = []) ∨ slD z sz es = .slice false 0 sz es ∨ slD z sz es = .slice false 1 sz es := by
 cases z <;> cases es <;> simp [slD]
@[simp] theorem len_slD : Qf [slD z sz es] = some (.int .i64 es.length) := by
 rcases ZH z sz es with ⟨h, rfl⟩ | ⟨h, rfl⟩ | h | h <;> rw [h] <;> rfl
@[simp] theorem idx_slD {k : IntKind} {i : Int} : Qq sz [slD z sz es, .int k i] = if 0 ≤ i then (es[i.toNat]?).map λe=> .elem e 0 else none := by
 rcases ZH z sz es with ⟨h, rfl⟩ | ⟨h, rfl⟩ | h | h <;> rw [h] <;> simp [Qq]
@[simp] theorem Gv : (slD z sz es).cells = [slD z sz es] := by
 rcases ZH z sz es with ⟨h, rfl⟩ | ⟨h, rfl⟩ | h | h <;> rw [h] <;> rfl
@[simp] theorem okCell_slD : (slD z sz es).okCell = true := by
 rcases ZH z sz es with ⟨h, rfl⟩ | ⟨h, rfl⟩ | h | h <;> rw [h] <;> rfl
@[simp] theorem okVal_slD : (slD z sz es).okVal = true := by
 rcases ZH z sz es with ⟨h, rfl⟩ | ⟨h, rfl⟩ | h | h <;> rw [h] <;> rfl
@[simp] theorem sealCell_slD : (slD z sz es).sealCell = some (slD z sz es) := by
 rcases ZH z sz es with ⟨h, rfl⟩ | ⟨h, rfl⟩ | h | h <;> rw [h] <;> rfl
@[simp] theorem sealVal_slD : (slD z sz es).sealVal = some (slD z sz es) := by
 rcases ZH z sz es with ⟨h, rfl⟩ | ⟨h, rfl⟩ | h | h <;> rw [h] <;> rfl
@[simp] theorem stale_slD : (slD z sz es).stale = slD z sz es := by
 rcases ZH z sz es with ⟨h, rfl⟩ | ⟨h, rfl⟩ | h | h <;> rw [h] <;> rfl
@[simp] theorem handBack_slD {σ : Sto} : (slD z sz es).handBack σ = some (slD z sz es) := by
 rcases ZH z sz es with ⟨h, rfl⟩ | ⟨h, rfl⟩ | h | h <;> rw [h] <;> simp [Qa.handBack, Qa.sealVal, Qa.sealCell]
@[simp] theorem import_slD {σ : Sto} : ZG σ (slD z sz es) = (slD z sz es, σ) := by
 rcases ZH z sz es with ⟨h, rfl⟩ | ⟨h, rfl⟩ | h | h <;> rw [h] <;> simp [ZG]
def Zs.part (z : Zs) (es : List (List Qa)) : Zs :=
 match es with
 | [] => match z with
  | .lit => .full
  | z => z
 | _ => .full
@[simp] theorem take_slD {k : IntKind} {j : Int} : XU sz false true false [slD z sz es, .int k j] = if 0 ≤ j ∧ j ≤ es.length then some (slD (z.part es) sz (es.take j.toNat)) else none := by
 cases es with
 | nil =>
  by_cases hj : 0 ≤ j ∧ j ≤ 0
  ·have : j = 0 := by omega
   subst this
   cases z <;> simp [slD, XU, ZM, Zs.part]
  ·have : ¬ (0 ≤ j ∧ j ≤ (([] : List (List Qa)).length : Int)) := by simpa using hj
   cases z <;> simp [slD, XU, ZM, Zs.part, hj]
 | cons e es =>
  have h : ∃ own, own ≤ 1 ∧ slD z sz (e :: es) = .slice false own sz (e :: es) := by
   cases z
   ·exact ⟨0, by decide, rfl⟩
   ·exact ⟨0, by decide, rfl⟩
   ·exact ⟨0, by decide, rfl⟩
   ·exact ⟨1, by decide, rfl⟩
  obtain ⟨own, ho, h⟩ := h
  rw [h]
  simp only [XU, ZM, if_true]
  by_cases hj : 0 ≤ j ∧ j ≤ (e :: es).length
  ·rw [if_pos hj, if_pos hj]
   have h2 : (if own = 1 then 0 else own) = 0 := by split <;> omega
   simp [Zs.part, slD, h2]
  ·rw [if_neg hj, if_neg hj]; rfl
end
abbrev Zc (z : Zs) (l : List (List UInt8)) : Qa := slD z 1 (l.map λs=> [Qa.str s])
theorem QY {α : Type} {l : List α} {i : Nat} {x : α} (h : l[i]? = some x) : l.drop i = x :: l.drop (i + 1) := by
 obtain ⟨hi, rfl⟩ := List.getElem?_eq_some_iff.1 h
 exact List.drop_eq_getElem_cons hi
theorem Qz {α : Type} {l : List α} {i : Nat} (h : i < l.length) : ∃ x, l[i]? = some x := ⟨l[i], List.getElem?_eq_getElem h⟩
theorem Zp {α : Type} {l : List α} {i : Nat} {x : α} (h : l[i]? = some x) : l.take (i + 1) = l.take i ++ [x] := by
 obtain ⟨hi, rfl⟩ := List.getElem?_eq_some_iff.1 h
 rw [List.take_add_one, List.getElem?_eq_getElem hi]; rfl
def apd (σ : Sto) (sz : Nat) (es : List (List Qa)) : Qa × Sto :=
 match es with
 | [] => (.nils, σ)
 | e :: es => (.slice false (σ.ntok + 3) sz (e :: es), { σ with ntok := σ.ntok + 1, fr := upd σ.fr σ.ntok ((es.length + 1) * sz) })
theorem Hg {σ : Sto} {sz own : Nat} {es : List (List Qa)} {r : List Qa} (hl : es.length + 1 ≤ 4294967296) :
  QF false sz (apd σ sz es).2 [(apd σ sz es).1, .slice false own sz [r]] = some ((apd σ sz (es ++ [r])).1, (apd σ sz (es ++ [r])).2) := by
 cases es with
 | nil => simp [apd, QF, XH, Ye, XE, Qa.szOk, QS]
 | cons e es =>
  have h1 : es.length + 1 + 1 ≤ QS := by simpa [QS] using hl
  simp [apd, QF, XH, Ye, XE, Qa.szOk, h1, upd]
theorem Gq {σ : Sto} {x : Qa} {y : Bool × List (List Qa)} (h : XE x = some y) : Ye σ x = some y := by
 cases x <;> first | exact h | simp [XE] at h
def frD (sz : Nat) (es : List (List Qa)) : Qa :=
 match es with
 | [] => .nils
 | e :: es => .slice false 2 sz (e :: es)
@[simp] theorem stale_frD {sz : Nat} {es : List (List Qa)} : (frD sz es).stale = slD .nil sz es := by
 cases es <;> rfl
@[simp] theorem okVal_apd {σ : Sto} {sz : Nat} {es : List (List Qa)} : (apd σ sz es).1.okVal = true := by
 cases es <;> simp [apd, Qa.okVal, Qa.okCell]
@[simp] theorem okCell_apd {σ : Sto} {sz : Nat} {es : List (List Qa)} : (apd σ sz es).1.okCell = true := by
 cases es <;> simp [apd, Qa.okCell]
@[simp] theorem cells_apd {σ : Sto} {sz : Nat} {es : List (List Qa)} : (apd σ sz es).1.cells = [(apd σ sz es).1] := by
 cases es <;> simp [apd, Qa.cells]
@[simp] theorem seal_apd {σ : Sto} {sz : Nat} {es : List (List Qa)} : (apd σ sz es).1.sealCell = some (slD .nil sz es) := by
 cases es <;> simp [apd, Qa.sealCell, slD]
@[simp] theorem sealVal_apd {σ : Sto} {sz : Nat} {es : List (List Qa)} : (apd σ sz es).1.sealVal = some (slD .nil sz es) := by
 cases es <;> simp [apd, Qa.sealVal, Qa.sealCell, slD]
@[simp] theorem len_apd {σ : Sto} {sz : Nat} {es : List (List Qa)} : Qf [(apd σ sz es).1] = some (.int .i64 es.length) := by
 cases es <;> simp [apd, Qf, goI]
@[simp] theorem back_apd {σ : Sto} {sz : Nat} {es : List (List Qa)} : (apd σ sz es).1.handBack (apd σ sz es).2 = some (frD sz es) := by
 cases es with
 | nil => rfl
 | cons e es => simp [apd, Qa.handBack, upd, frD]
def Wk (n : Nat) (f : Nat → Qa) : Qa := .agg ((List.range n).map f)
theorem arr_get {n i : Nat} {f : Nat → Qa} (h : i < n) : ((List.range n).map f)[i]? = some (f i) := by simp [h]
theorem arr_set {n i : Nat} {f : Nat → Qa} {v : Qa} (h : i < n) : ((List.range n).map f).take i ++ ([v] ++ ((List.range n).map f).drop (i + 1)) = (List.range n).map (upd f i v) := by
 have e : (List.range n).map (upd f i v) = ((List.range n).map f).set i v := by
  apply List.ext_getElem?
  intro j
  rw [List.getElem?_set]
  by_cases hj : j < n
  ·by_cases hij : i = j
   ·subst hij; simp [hj, upd]
   ·simp [hj, upd, hij, Ne.symm hij]
  ·simp [hj]
   intro e; omega
 rw [e, List.set_eq_take_append_cons_drop, if_pos (by simpa using h)]
 rfl
theorem Yv {σ : Sto} {id n i : Nat} {f : Nat → Qa} (ho : σ.obj id = Wk n f) (hid : id < σ.nobj) (h : i < n) : Q8 σ none [.obj id i] = some (f i, σ) := by
 simp only [Q8, hid, if_true, ho, Wk, Z0, arr_get h, Option.map_some]
def Sto.put (σ : Sto) (id : Nat) (d : Qa) : Sto := { σ with obj := upd σ.obj id d }
@[simp] theorem Sto.put_obj {σ : Sto} {id : Nat} {d : Qa} : (σ.put id d).obj id = d := by simp [Sto.put, upd]
theorem Sto.put_obj_ne {σ : Sto} {id j : Nat} {d : Qa} (h : j ≠ id) : (σ.put id d).obj j = σ.obj j := by simp [Sto.put, upd, h]
@[simp] theorem Sto.put_nobj {σ : Sto} {id : Nat} {d : Qa} : (σ.put id d).nobj = σ.nobj := rfl
@[simp] theorem Sto.put_ntok {σ : Sto} {id : Nat} {d : Qa} : (σ.put id d).ntok = σ.ntok := rfl
@[simp] theorem Sto.put_fr {σ : Sto} {id : Nat} {d : Qa} : (σ.put id d).fr = σ.fr := rfl
@[simp] theorem Sto.put_put {σ : Sto} {id : Nat} {d e : Qa} : (σ.put id d).put id e = σ.put id e := by simp [Sto.put, upd_upd]
theorem Gb {σ : Sto} {id n i : Nat} {f : Nat → Qa} {v : Qa} (ho : σ.obj id = Wk n f) (hid : id < σ.nobj) (h : i < n) (hc : v.cells = [v]) (hv : v.okCell = true) :
  Xr σ 1 [.obj id i, v] = some (.undef, σ.put id (Wk n (upd f i v))) := by
 have hl : i + 1 ≤ n := by omega
 simp only [Xr, hid, hc, List.length_cons, List.length_nil, List.all_cons, hv, List.all_nil, Bool.and_self, and_self, if_true, ho, Wk, QX, List.length_map, List.length_range, hl, arr_set h, Option.map_some]
 rfl
def Sto.new (σ : Sto) (d : Qa) : Sto := { σ with nobj := σ.nobj + 1, obj := upd σ.obj σ.nobj d }
@[simp] theorem Sto.new_obj {σ : Sto} {d : Qa} : (σ.new d).obj σ.nobj = d := by simp [Sto.new, upd]
theorem Sto.new_obj_ne {σ : Sto} {j : Nat} {d : Qa} (h : j < σ.nobj) : (σ.new d).obj j = σ.obj j := by simp [Sto.new, upd]; intro e; omega
@[simp] theorem Sto.new_nobj {σ : Sto} {d : Qa} : (σ.new d).nobj = σ.nobj + 1 := rfl
@[simp] theorem Sto.new_ntok {σ : Sto} {d : Qa} : (σ.new d).ntok = σ.ntok := rfl
@[simp] theorem Sto.new_fr {σ : Sto} {d : Qa} : (σ.new d).fr = σ.fr := rfl
@[simp] theorem Sto.new_put {σ : Sto} {d e : Qa} : (σ.new d).put σ.nobj e = σ.new e := by simp [Sto.new, Sto.put, upd_upd]
theorem Yl {σ : Sto} {id off : Nat} {cs : List Qa} (sz : Option Nat) (ho : σ.obj id = .agg cs) (hid : id < σ.nobj) : Q8 σ sz [.obj id off] = (Z0 cs off sz).map λv=> (v, σ) := by
 simp only [Q8, hid, if_true, ho]
theorem st_obj {σ : Sto} {id off k : Nat} {cs : List Qa} {v : Qa} (ho : σ.obj id = .agg cs) (hid : id < σ.nobj) (hk : v.cells.length = k) (hv : v.cells.all Qa.okCell = true) :
  Xr σ k [.obj id off, v] = (QX cs off v.cells).map fun cs' => (.undef, σ.put id (.agg cs')) := by
 simp only [Xr, hid, hk, hv, and_self, if_true, ho]
 rfl
theorem alloc_obj {σ : Sto} {z : List Qa} : Yc σ z [] = some (.obj σ.nobj 0, σ.new (.agg z)) := rfl
def JD {α : Type} (i : Nat) (f g : Nat → α) : Nat → α := λj=> if j < i then f j else g j
theorem upto_zero {α : Type} (f g : Nat → α) : JD 0 f g = g := by funext j; simp [JD]
theorem upto_succ {α : Type} (i : Nat) (f g : Nat → α) : upd (JD i f g) i (f i) = JD (i + 1) f g := by
 funext j
 simp only [upd, JD]
 by_cases h : j = i
 ·subst h; simp
 ·by_cases h2 : j < i
  ·simp [h, h2, (by omega : j < i + 1)]
  ·simp [h, h2]; intro; omega
theorem upto_lt {α : Type} {i j : Nat} (f g : Nat → α) (h : j < i) : JD i f g j = f j := by simp [JD, h]
theorem arr_upto {n : Nat} {f g : Nat → Qa} : Wk n (JD n f g) = Wk n f := by
 unfold Wk
 congr 1
 apply List.map_congr_left
 intro j hj
 exact upto_lt _ _ (by simpa using hj)
end Go.Proofs.YtdibpeknpmhknaaGreat
namespace Go.Proofs.YtdibpeknpmhknaaGreat
open Go
def Ans {α : Type} (o : Option α) (Q : α → Prop) : Prop := ∃ x, o = some x ∧ Q x
@[simp] theorem ans_some {α : Type} (x : α) (Q : α → Prop) : Ans (some x) Q = Q x := by simp [Ans]
@[simp] theorem ans_none {α : Type} (Q : α → Prop) : Ans none Q = False := by simp [Ans]
@[simp] theorem ans_ite {α : Type} (p : Prop) (a b : Option α) (Q : α → Prop) : Ans (XL p a b) Q = ((p → Ans a Q) ∧ (¬ p → Ans b Q)) := by
 by_cases h : p <;> simp [h]
theorem Ans.mono {α : Type} {o : Option α} {Q R : α → Prop} (h : Ans o Q) (hq : ∀ x, Q x → R x) : Ans o R := by
 obtain ⟨x, h1, h2⟩ := h
 exact ⟨x, h1, hq x h2⟩
def stepR (l : Nat) (f : List Qa → Sto → Option Out) (m : Nat) (R : Out → Prop) : Out → Prop
 | .next i vs σ => if i = l then Ans (Qv l f m vs σ) R else R (.next i vs σ)
 | o => R o
@[simp] theorem stepR_done (l : Nat) (f : List Qa → Sto → Option Out) (m : Nat) (R : Out → Prop) (v : Qa) (σ : Sto) : stepR l f m R (.done v σ) = R (.done v σ) := rfl
@[simp] theorem stepR_next (l i : Nat) (f : List Qa → Sto → Option Out) (m : Nat) (R : Out → Prop) (vs : List Qa) (σ : Sto) : stepR l f m R (.next i vs σ) = if i = l then Ans (Qv l f m vs σ) R else R (.next i vs σ) := rfl
theorem Q2 {l : Nat} {f : List Qa → Sto → Option Out} {m : Nat} {vs : List Qa} {σ : Sto} {R : Out → Prop} (h : Ans (f vs σ) (stepR l f m R)) : Ans (Qv l f (m + 1) vs σ) R := by
 obtain ⟨o, h1, h2⟩ := h
 cases o with
 | done v τ => rw [Qt h1]; exact ⟨_, rfl, h2⟩
 | next i us τ =>
  by_cases e : i = l
  ·subst e
   rw [Qx h1]
   simpa using h2
  ·rw [YV h1 e]
   refine ⟨_, rfl, ?_⟩
   simpa [e] using h2
def joinR (l : Nat) (k : List Qa → Sto → Option Out) (R : Out → Prop) : Out → Prop
 | .next i vs σ => if i = l then Ans (k vs σ) R else R (.next i vs σ)
 | o => R o
@[simp] theorem joinR_done (l : Nat) (k : List Qa → Sto → Option Out) (R : Out → Prop) (v : Qa) (σ : Sto) : joinR l k R (.done v σ) = R (.done v σ) := rfl
@[simp] theorem joinR_next (l i : Nat) (k : List Qa → Sto → Option Out) (R : Out → Prop) (vs : List Qa) (σ : Sto) : joinR l k R (.next i vs σ) = if i = l then Ans (k vs σ) R else R (.next i vs σ) := rfl
theorem JR {l : Nat} {k : List Qa → Sto → Option Out} {o : Option Out} {R : Out → Prop} : Ans (X_ l k o) R = Ans o (joinR l k R) := by
 cases o with
 | none => simp [X_, Ans]
 | some o =>
  cases o with
  | done v τ => simp
  | next i us τ =>
   by_cases e : i = l
   ·subst e; simp
   ·rw [joinJ_other l i k us τ e]; simp [e]
def backR (Q : Qa → Prop) : Out → Prop
 | .done v σ => Ans (v.handBack σ) Q
 | _ => False
@[simp] theorem backR_done (Q : Qa → Prop) (v : Qa) (σ : Sto) : backR Q (.done v σ) = Ans (v.handBack σ) Q := rfl
@[simp] theorem backR_next (Q : Qa → Prop) (i : Nat) (vs : List Qa) (σ : Sto) : backR Q (.next i vs σ) = False := rfl
theorem Zw {o : Option Out} {Q : Qa → Prop} (h : Ans o (backR Q)) : Ans (QB o) Q := by
 obtain ⟨x, rfl, h2⟩ := h
 cases x with
 | done v σ => simpa using h2
 | next i vs σ => exact h2.elim
def backI (Q : Qa → Sto → Prop) : Out → Prop
 | .done v σ => Q v σ
 | _ => False
@[simp] theorem backI_done (Q : Qa → Sto → Prop) (v : Qa) (σ : Sto) : backI Q (.done v σ) = Q v σ := rfl
@[simp] theorem backI_next (Q : Qa → Sto → Prop) (i : Nat) (vs : List Qa) (σ : Sto) : backI Q (.next i vs σ) = False := rfl
def isB (Q : Bool → Prop) (d : Qa) : Prop := ∃ b, d = .bool b ∧ Q b
@[simp] theorem isB_bool (Q : Bool → Prop) (b : Bool) : isB Q (.bool b) = Q b := by simp [isB]
def isI (Q : Int → Prop) (d : Qa) : Prop := ∃ i, d = .int .i64 i ∧ Q i
@[simp] theorem isI_int (Q : Int → Prop) (i : Int) : isI Q (.int .i64 i) = Q i := by simp [isI]
theorem Ans.bool {o : Option Qa} {Q : Bool → Prop} (h : Ans o (isB Q)) : ∃ b, o = some (.bool b) ∧ Q b := by
 obtain ⟨d, h1, b, rfl, h2⟩ := h
 exact ⟨b, h1, h2⟩
theorem Ans.int {o : Option Qa} {Q : Int → Prop} (h : Ans o (isI Q)) : ∃ i, o = some (.int .i64 i) ∧ Q i := by
 obtain ⟨d, h1, i, rfl, h2⟩ := h
 exact ⟨i, h1, h2⟩
def doneB (Q : Bool → Prop) : Out → Prop
 | .done (.bool b) _ => Q b
 | _ => False
@[simp] theorem doneB_bool (Q : Bool → Prop) (b : Bool) (σ : Sto) : doneB Q (.done (.bool b) σ) = Q b := rfl
def doneI (Q : Int → Prop) : Out → Prop
 | .done (.int .i64 i) _ => Q i
 | _ => False
@[simp] theorem doneI_int (Q : Int → Prop) (i : Int) (σ : Sto) : doneI Q (.done (.int .i64 i) σ) = Q i := rfl
theorem Ans.doneB {o : Option Out} {Q : Bool → Prop} (h : Ans o (doneB Q)) : ∃ b σ, o = some (.done (.bool b) σ) ∧ Q b := by
 obtain ⟨x, rfl, h2⟩ := h
 cases x with
 | done v σ => cases v <;> simp only [Go.Proofs.YtdibpeknpmhknaaGreat.doneB] at h2; exact ⟨_, σ, rfl, h2⟩
 | next i vs σ => exact h2.elim
theorem Ans.doneI {o : Option Out} {Q : Int → Prop} (h : Ans o (doneI Q)) : ∃ i σ, o = some (.done (.int .i64 i) σ) ∧ Q i := by
 obtain ⟨x, rfl, h2⟩ := h
 cases x with
 | done v σ =>
  cases v with
  | int k i =>
   cases k <;> first | exact ⟨_, σ, rfl, h2⟩ | exact h2.elim
  | _ => exact h2.elim
 | next i vs σ => exact h2.elim
def any {α : Type} : α → Prop := λ_=> True
@[simp] theorem any_eq {α : Type} (x : α) : any x = True := rfl
theorem rows_of {α : Type} {f : α → List Qa} : ∀ {es : List (List Qa)}, (∀ r ∈ es, ∃ x, r = f x) → ∃ l : List α, es = l.map f
 | [], _ => ⟨[], rfl⟩
 | e :: es, h => by
  obtain ⟨x, rfl⟩ := h e (by simp)
  obtain ⟨l, rfl⟩ := rows_of (es := es) fun r hr => h r (by simp [hr])
  exact ⟨x :: l, rfl⟩
theorem wf_u64 {i : Int} (h : (Lit.int .u64 i).wf = true) : ∃ c : Nat, i = c ∧ c < 18446744073709551616 := by
 simp [Lit.wf, IntKind.min, IntKind.max, IntKind.signed, IntKind.bits] at h
 exact ⟨i.toNat, by omega, by omega⟩
end Go.Proofs.YtdibpeknpmhknaaGreat
namespace Go.Proofs.YtdibpeknpmhknaaGreat
open Go
abbrev Bs := List UInt8
structure Sl (α : Type) where
 z : Zs
 l : List α
structure Q_ where
 w : Nat → Nat
 lt : ∀ i, w i < 18446744073709551616
def Q_.row (s : Q_) : List Qa := [.int .u64 (s.w 0), .int .u64 (s.w 1), .int .u64 (s.w 2), .int .u64 (s.w 3)]
structure LvV where
 s : Int
 c : Nat
 lt : c < 18446744073709551616
def LvV.row (l : LvV) : List Qa := [.int .i64 l.s, .int .u64 l.c]
structure Q3 where
 user : Int
 role : Int
 type : Int
 lo : LvV
 hi : LvV
def Q3.row (c : Q3) : List Qa := [.int .i64 c.user, .int .i64 c.role, .int .i64 c.type] ++ (c.lo.row ++ c.hi.row)
structure Zq where
 name : Bs
 perms : Sl Bs
def Z1 (s : Sl Bs) : Qa := slD s.z 1 (s.l.map λx=> [Qa.str x])
def Zq.row (c : Zq) : List Qa := [.str c.name, Z1 c.perms]
structure Q9 where
 name : Bs
 aliases : Sl Bs
 perm : Bool
def Q9.row (t : Q9) : List Qa := [.str t.name, Z1 t.aliases, .bool t.perm]
structure Xv where
 name : Bs
 types : Q_
def Xv.row (a : Xv) : List Qa := .str a.name :: a.types.row
structure QQ where
 name : Bs
 types : Q_
 next : Q_
def QQ.row (r : QQ) : List Qa := .str r.name :: (r.types.row ++ r.next.row)
structure QU where
 name : Bs
 roles : Q_
 dflt : LvV
 lo : LvV
 hi : LvV
def QU.row (u : QU) : List Qa := .str u.name :: (u.roles.row ++ (u.dflt.row ++ (u.lo.row ++ u.hi.row)))
structure Xb where
 name : Bs
 value : Bool
def Xb.row (b : Xb) : List Qa := [.str b.name, .bool b.value]
structure ZL where
 kind : Int
 source : Q_
 target : Q_
 self : Bool
 cls : Int
 perms : Nat
 cond : Int
 lt : perms < 4294967296
def ZL.row (r : ZL) : List Qa := .int .i64 r.kind :: (r.source.row ++ (r.target.row ++ [.bool r.self, .int .i64 r.cls, .int .u32 r.perms, .int .i64 r.cond]))
structure Zr where
 kind : Int
 source : Q_
 target : Q_
 cls : Int
 name : Bs
 result : Int
 cond : Int
def Zr.row (r : Zr) : List Qa := .int .i64 r.kind :: (r.source.row ++ (r.target.row ++ [.int .i64 r.cls, .str r.name, .int .i64 r.result, .int .i64 r.cond]))
structure QO where
 roles : Q_
 types : Q_
 cls : Int
 result : Int
def QO.row (r : QO) : List Qa := r.roles.row ++ (r.types.row ++ [.int .i64 r.cls, .int .i64 r.result])
structure QA where
 source : Q_
 target : Q_
 cls : Int
 lo : LvV
 hi : LvV
def QA.row (r : QA) : List Qa := r.source.row ++ (r.target.row ++ (.int .i64 r.cls :: (r.lo.row ++ r.hi.row)))
inductive QG where
 | mk (op a rel b : Int) (names : Sl Bs) (set : Q_) (kz : Zs) (kids : List QG)
mutual
def QG.row : QG → List Qa
 | .mk op a rel b names set kz kids => [.int .i64 op, .int .i64 a, .int .i64 rel, .int .i64 b, Z1 names] ++ (set.row ++ [slD kz 10 (QG.rows kids)])
def QG.rows : List QG → List (List Qa)
 | [] => []
 | e :: es => e.row :: QG.rows es
end
theorem QG.rows_map : ∀ (l : List QG), QG.rows l = l.map QG.row
 | [] => by simp [QG.rows]
 | e :: es => by simp [QG.rows, QG.rows_map es]
theorem QG.row_mk (op a rel b : Int) (names : Sl Bs) (set : Q_) (kz : Zs) (kids : List QG) :
  (QG.mk op a rel b names set kz kids).row = [.int .i64 op, .int .i64 a, .int .i64 rel, .int .i64 b, Z1 names] ++ (set.row ++ [slD kz 10 (kids.map QG.row)]) := by
 rw [QG.row, QG.rows_map]
structure Zx where
 cls : Int
 perms : Nat
 validate : Bool
 expr : QG
 lt : perms < 4294967296
def Zx.row (c : Zx) : List Qa := [.int .i64 c.cls, .int .u32 c.perms, .bool c.validate] ++ c.expr.row
structure ZD where
 name : Bs
 ctx : Q3
def ZD.row (s : ZD) : List Qa := .str s.name :: s.ctx.row
structure ZV where
 pattern : Bs
 kind : Int
 ctx : Q3
def ZV.row (f : ZV) : List Qa := [.str f.pattern, .int .i64 f.kind] ++ f.ctx.row
structure Zl where
 name : Bs
 kind : Int
 source : Q_
 target : Q_
def Zl.row (a : Zl) : List Qa := [.str a.name, .int .i64 a.kind] ++ (a.source.row ++ a.target.row)
structure Qw where
 classes : Sl Zq
 types : Sl Q9
 attrs : Sl Xv
 roles : Sl QQ
 users : Sl QU
 bools : Sl Xb
 sens : Sl Bs
 cats : Sl Bs
 conds : Sl QG
 rules : Sl ZL
 trans : Sl Zr
 roleTrans : Sl QO
 ranges : Sl QA
 constrs : Sl Zx
 sids : Sl ZD
 files : Sl ZV
 asserts : Sl Zl
def QJ {α : Type} (n : Nat) (f : α → List Qa) (s : Sl α) : Qa := slD s.z n (s.l.map f)
def Qw.row (p : Qw) : List Qa :=
 [QJ 2 Zq.row p.classes, QJ 3 Q9.row p.types, QJ 5 Xv.row p.attrs, QJ 9 QQ.row p.roles, QJ 11 QU.row p.users, QJ 2 Xb.row p.bools, Z1 p.sens, Z1 p.cats, QJ 10 QG.row p.conds, QJ 13 ZL.row p.rules, QJ 13 Zr.row p.trans, QJ 10 QO.row p.roleTrans, QJ 13 QA.row p.ranges, QJ 13 Zx.row p.constrs, QJ 8 ZD.row p.sids, QJ 9 ZV.row p.files, QJ 10 Zl.row p.asserts]
def Qw.d (p : Qw) : Qa := .agg p.row
section
variable {α : Type} {f : α → List Qa} {n : Nat} {s : Sl α}
@[simp] theorem len_slOf : Qf [QJ n f s] = some (.int .i64 s.l.length) := by simp [QJ]
@[simp] theorem idx_slOf {k : IntKind} {i : Int} : Qq n [QJ n f s, .int k i] = if 0 ≤ i then (s.l[i.toNat]?).map λe=> .elem (f e) 0 else none := by
 simp only [QJ, idx_slD]
 split
 ·simp only [List.getElem?_map, Option.map_map, Function.comp_def]
 ·rfl
@[simp] theorem cells_slOf : (QJ n f s).cells = [QJ n f s] := by simp [QJ]
@[simp] theorem Wq : (QJ n f s).okCell = true := by simp [QJ]
@[simp] theorem okVal_slOf : (QJ n f s).okVal = true := by simp [QJ]
@[simp] theorem Uo : (QJ n f s).sealCell = some (QJ n f s) := by simp [QJ]
@[simp] theorem sealVal_slOf : (QJ n f s).sealVal = some (QJ n f s) := by simp [QJ]
@[simp] theorem stale_slOf : (QJ n f s).stale = QJ n f s := by simp [QJ]
@[simp] theorem len_strs {s : Sl Bs} : Qf [Z1 s] = some (.int .i64 s.l.length) := by simp [Z1]
@[simp] theorem idx_strs {s : Sl Bs} {k : IntKind} {i : Int} : Qq 1 [Z1 s, .int k i] = if 0 ≤ i then (s.l[i.toNat]?).map λe=> .elem [.str e] 0 else none := by
 simp only [Z1, idx_slD]
 split
 ·simp only [List.getElem?_map, Option.map_map, Function.comp_def]
 ·rfl
@[simp] theorem cells_strs {s : Sl Bs} : (Z1 s).cells = [Z1 s] := by simp [Z1]
@[simp] theorem okCell_strs {s : Sl Bs} : (Z1 s).okCell = true := by simp [Z1]
@[simp] theorem okVal_strs {s : Sl Bs} : (Z1 s).okVal = true := by simp [Z1]
@[simp] theorem sealCell_strs {s : Sl Bs} : (Z1 s).sealCell = some (Z1 s) := by simp [Z1]
@[simp] theorem sealVal_strs {s : Sl Bs} : (Z1 s).sealVal = some (Z1 s) := by simp [Z1]
@[simp] theorem stale_strs {s : Sl Bs} : (Z1 s).stale = Z1 s := by simp [Z1]
end
section
variable {p : Qw}
@[simp] theorem cells_pol : p.d.cells = p.row := rfl
@[simp] theorem okVal_pol : p.d.okVal = true := by simp [Qw.d, Qw.row, Qa.okVal]
@[simp] theorem sealVal_pol : p.d.sealVal = some p.d := by simp [Qw.d, Qw.row, Qa.sealVal, QN]
@[simp] theorem stale_pol : p.d.stale = p.d := rfl
@[simp] theorem fld_classes : Qb 0 none [p.d] = some (QJ 2 Zq.row p.classes) := rfl
@[simp] theorem fld_types : Qb 1 none [p.d] = some (QJ 3 Q9.row p.types) := rfl
@[simp] theorem fld_attrs : Qb 2 none [p.d] = some (QJ 5 Xv.row p.attrs) := rfl
@[simp] theorem fld_roles : Qb 3 none [p.d] = some (QJ 9 QQ.row p.roles) := rfl
@[simp] theorem fld_users : Qb 4 none [p.d] = some (QJ 11 QU.row p.users) := rfl
@[simp] theorem fld_bools : Qb 5 none [p.d] = some (QJ 2 Xb.row p.bools) := rfl
@[simp] theorem fld_sens : Qb 6 none [p.d] = some (Z1 p.sens) := rfl
@[simp] theorem fld_cats : Qb 7 none [p.d] = some (Z1 p.cats) := rfl
@[simp] theorem fld_conds : Qb 8 none [p.d] = some (QJ 10 QG.row p.conds) := rfl
@[simp] theorem fld_rules : Qb 9 none [p.d] = some (QJ 13 ZL.row p.rules) := rfl
@[simp] theorem fld_trans : Qb 10 none [p.d] = some (QJ 13 Zr.row p.trans) := rfl
@[simp] theorem fld_roleTrans : Qb 11 none [p.d] = some (QJ 10 QO.row p.roleTrans) := rfl
@[simp] theorem fld_ranges : Qb 12 none [p.d] = some (QJ 13 QA.row p.ranges) := rfl
@[simp] theorem fld_constrs : Qb 13 none [p.d] = some (QJ 13 Zx.row p.constrs) := rfl
@[simp] theorem fld_sids : Qb 14 none [p.d] = some (QJ 8 ZD.row p.sids) := rfl
@[simp] theorem fld_files : Qb 15 none [p.d] = some (QJ 9 ZV.row p.files) := rfl
@[simp] theorem fld_asserts : Qb 16 none [p.d] = some (QJ 10 Zl.row p.asserts) := rfl
end
end Go.Proofs.YtdibpeknpmhknaaGreat
namespace Go.Proofs.YtdibpeknpmhknaaGreat
open Go
def Q_.d (s : Q_) : Qa := .agg s.row
def Yj (lo hi : LvV) : Qa := .agg (lo.row ++ hi.row)
def LvV.d (x : LvV) : Qa := .agg x.row
def Q3.d (x : Q3) : Qa := .agg x.row
def Zq.d (x : Zq) : Qa := .agg x.row
def Q9.d (x : Q9) : Qa := .agg x.row
def Xv.d (x : Xv) : Qa := .agg x.row
def QQ.d (x : QQ) : Qa := .agg x.row
def QU.d (x : QU) : Qa := .agg x.row
def Xb.d (x : Xb) : Qa := .agg x.row
def ZL.d (x : ZL) : Qa := .agg x.row
def Zr.d (x : Zr) : Qa := .agg x.row
def QO.d (x : QO) : Qa := .agg x.row
def QA.d (x : QA) : Qa := .agg x.row
def Zx.d (x : Zx) : Qa := .agg x.row
def ZD.d (x : ZD) : Qa := .agg x.row
def ZV.d (x : ZV) : Qa := .agg x.row
def Zl.d (x : Zl) : Qa := .agg x.row
def QG.d (x : QG) : Qa := .agg x.row
@[simp high] theorem SetV_jbox (x : Q_) : Qm [x.d] = some x.d := rfl
@[simp high] theorem SetV_seal (x : Q_) : x.d.sealVal = some x.d := rfl
@[simp high] theorem SetV_okVal (x : Q_) : x.d.okVal = true := rfl
@[simp high] theorem SetV_stale (x : Q_) : x.d.stale = x.d := rfl
@[simp high] theorem SetV_back (x : Q_) (σ : Sto) : x.d.handBack σ = some x.d := by rw [show x.d.handBack σ = x.d.sealVal.or (x.d.snapVal σ) from rfl, SetV_seal x]; rfl
@[simp high] theorem SetV_whole (x : Q_) : Qb 0 (some 4) [x.d] = some x.d := rfl
@[simp high] theorem SetV_el (x : Q_) : Ql (some 4) [.elem x.row 0] = some x.d := rfl
@[simp high] theorem SetV_wr (x : Q_) (c0 c1 c2 c3 : Qa) : Qh 0 4 [.agg [c0, c1, c2, c3], x.d] = some x.d := rfl
@[simp high] theorem SetV_wr2 (x y : Q_) : Qh 0 4 [x.d, y.d] = some y.d := rfl
@[simp high] theorem LvV_jbox (x : LvV) : Qm [x.d] = some x.d := rfl
@[simp high] theorem LvV_seal (x : LvV) : x.d.sealVal = some x.d := rfl
@[simp high] theorem LvV_okVal (x : LvV) : x.d.okVal = true := rfl
@[simp high] theorem LvV_stale (x : LvV) : x.d.stale = x.d := rfl
@[simp high] theorem LvV_back (x : LvV) (σ : Sto) : x.d.handBack σ = some x.d := by rw [show x.d.handBack σ = x.d.sealVal.or (x.d.snapVal σ) from rfl, LvV_seal x]; rfl
@[simp high] theorem LvV_whole (x : LvV) : Qb 0 (some 2) [x.d] = some x.d := rfl
@[simp high] theorem LvV_el (x : LvV) : Ql (some 2) [.elem x.row 0] = some x.d := rfl
@[simp high] theorem LvV_wr (x : LvV) (c0 c1 : Qa) : Qh 0 2 [.agg [c0, c1], x.d] = some x.d := rfl
@[simp high] theorem LvV_wr2 (x y : LvV) : Qh 0 2 [x.d, y.d] = some y.d := rfl
@[simp high] theorem LvV_f_s (x : LvV) : Qb 0 none [x.d] = some (.int .i64 x.s) := rfl
@[simp high] theorem LvV_e_s (x : LvV) : Ql none [.elem x.row 0] = some (.int .i64 x.s) := rfl
@[simp high] theorem LvV_f_c (x : LvV) : Qb 1 none [x.d] = some (.int .u64 x.c) := rfl
@[simp high] theorem LvV_e_c (x : LvV) : Ql none [.elem x.row 1] = some (.int .u64 x.c) := rfl
@[simp high] theorem CtxV_jbox (x : Q3) : Qm [x.d] = some x.d := rfl
@[simp high] theorem CtxV_seal (x : Q3) : x.d.sealVal = some x.d := rfl
@[simp high] theorem CtxV_okVal (x : Q3) : x.d.okVal = true := rfl
@[simp high] theorem CtxV_stale (x : Q3) : x.d.stale = x.d := rfl
@[simp high] theorem CtxV_back (x : Q3) (σ : Sto) : x.d.handBack σ = some x.d := by rw [show x.d.handBack σ = x.d.sealVal.or (x.d.snapVal σ) from rfl, CtxV_seal x]; rfl
@[simp high] theorem CtxV_whole (x : Q3) : Qb 0 (some 7) [x.d] = some x.d := rfl
@[simp high] theorem CtxV_el (x : Q3) : Ql (some 7) [.elem x.row 0] = some x.d := rfl
@[simp high] theorem CtxV_wr (x : Q3) (c0 c1 c2 c3 c4 c5 c6 : Qa) : Qh 0 7 [.agg [c0, c1, c2, c3, c4, c5, c6], x.d] = some x.d := rfl
@[simp high] theorem CtxV_wr2 (x y : Q3) : Qh 0 7 [x.d, y.d] = some y.d := rfl
@[simp high] theorem CtxV_f_user (x : Q3) : Qb 0 none [x.d] = some (.int .i64 x.user) := rfl
@[simp high] theorem CtxV_e_user (x : Q3) : Ql none [.elem x.row 0] = some (.int .i64 x.user) := rfl
@[simp high] theorem CtxV_f_role (x : Q3) : Qb 1 none [x.d] = some (.int .i64 x.role) := rfl
@[simp high] theorem CtxV_e_role (x : Q3) : Ql none [.elem x.row 1] = some (.int .i64 x.role) := rfl
@[simp high] theorem CtxV_f_type (x : Q3) : Qb 2 none [x.d] = some (.int .i64 x.type) := rfl
@[simp high] theorem CtxV_e_type (x : Q3) : Ql none [.elem x.row 2] = some (.int .i64 x.type) := rfl
@[simp high] theorem CtxV_f_lo (x : Q3) : Qb 3 (some 2) [x.d] = some x.lo.d := rfl
@[simp high] theorem CtxV_e_lo (x : Q3) : Ql (some 2) [.elem x.row 3] = some x.lo.d := rfl
@[simp high] theorem CtxV_f_rng (x : Q3) : Qb 3 (some 4) [x.d] = some (Yj x.lo x.hi) := rfl
@[simp high] theorem CtxV_e_rng (x : Q3) : Ql (some 4) [.elem x.row 3] = some (Yj x.lo x.hi) := rfl
@[simp high] theorem CtxV_f_hi (x : Q3) : Qb 5 (some 2) [x.d] = some x.hi.d := rfl
@[simp high] theorem CtxV_e_hi (x : Q3) : Ql (some 2) [.elem x.row 5] = some x.hi.d := rfl
@[simp high] theorem ClassV_jbox (x : Zq) : Qm [x.d] = some x.d := by simp [Qm, Qa.cells, Zq.d, Zq.row]
@[simp high] theorem ClassV_seal (x : Zq) : x.d.sealVal = some x.d := by simp [Qa.sealVal, QN, Zq.d, Zq.row]
@[simp high] theorem ClassV_okVal (x : Zq) : x.d.okVal = true := by simp [Qa.okVal, Zq.d, Zq.row]
@[simp high] theorem ClassV_stale (x : Zq) : x.d.stale = x.d := rfl
@[simp high] theorem ClassV_back (x : Zq) (σ : Sto) : x.d.handBack σ = some x.d := by rw [show x.d.handBack σ = x.d.sealVal.or (x.d.snapVal σ) from rfl, ClassV_seal x]; rfl
@[simp high] theorem ClassV_whole (x : Zq) : Qb 0 (some 2) [x.d] = some x.d := rfl
@[simp high] theorem ClassV_el (x : Zq) : Ql (some 2) [.elem x.row 0] = some x.d := rfl
@[simp high] theorem ClassV_wr (x : Zq) (c0 c1 : Qa) : Qh 0 2 [.agg [c0, c1], x.d] = some x.d := by simp [Qh, Qa.cells, QX, Zq.d, Zq.row]
@[simp high] theorem ClassV_wr2 (x y : Zq) : Qh 0 2 [x.d, y.d] = some y.d := by simp [Qh, Qa.cells, QX, Zq.d, Zq.row]
@[simp high] theorem ClassV_f_name (x : Zq) : Qb 0 none [x.d] = some (.str x.name) := rfl
@[simp high] theorem ClassV_e_name (x : Zq) : Ql none [.elem x.row 0] = some (.str x.name) := rfl
@[simp high] theorem ClassV_f_perms (x : Zq) : Qb 1 none [x.d] = some (Z1 x.perms) := rfl
@[simp high] theorem ClassV_e_perms (x : Zq) : Ql none [.elem x.row 1] = some (Z1 x.perms) := rfl
@[simp high] theorem TypeV_jbox (x : Q9) : Qm [x.d] = some x.d := by simp [Qm, Qa.cells, Q9.d, Q9.row]
@[simp high] theorem TypeV_seal (x : Q9) : x.d.sealVal = some x.d := by simp [Qa.sealVal, QN, Q9.d, Q9.row]
@[simp high] theorem TypeV_okVal (x : Q9) : x.d.okVal = true := by simp [Qa.okVal, Q9.d, Q9.row]
@[simp high] theorem TypeV_stale (x : Q9) : x.d.stale = x.d := rfl
@[simp high] theorem TypeV_back (x : Q9) (σ : Sto) : x.d.handBack σ = some x.d := by rw [show x.d.handBack σ = x.d.sealVal.or (x.d.snapVal σ) from rfl, TypeV_seal x]; rfl
@[simp high] theorem TypeV_whole (x : Q9) : Qb 0 (some 3) [x.d] = some x.d := rfl
@[simp high] theorem TypeV_el (x : Q9) : Ql (some 3) [.elem x.row 0] = some x.d := rfl
@[simp high] theorem TypeV_wr (x : Q9) (c0 c1 c2 : Qa) : Qh 0 3 [.agg [c0, c1, c2], x.d] = some x.d := by simp [Qh, Qa.cells, QX, Q9.d, Q9.row]
@[simp high] theorem TypeV_wr2 (x y : Q9) : Qh 0 3 [x.d, y.d] = some y.d := by simp [Qh, Qa.cells, QX, Q9.d, Q9.row]
@[simp high] theorem TypeV_f_name (x : Q9) : Qb 0 none [x.d] = some (.str x.name) := rfl
@[simp high] theorem TypeV_e_name (x : Q9) : Ql none [.elem x.row 0] = some (.str x.name) := rfl
@[simp high] theorem TypeV_f_aliases (x : Q9) : Qb 1 none [x.d] = some (Z1 x.aliases) := rfl
@[simp high] theorem TypeV_e_aliases (x : Q9) : Ql none [.elem x.row 1] = some (Z1 x.aliases) := rfl
@[simp high] theorem TypeV_f_perm (x : Q9) : Qb 2 none [x.d] = some (.bool x.perm) := rfl
@[simp high] theorem TypeV_e_perm (x : Q9) : Ql none [.elem x.row 2] = some (.bool x.perm) := rfl
@[simp high] theorem AttrV_jbox (x : Xv) : Qm [x.d] = some x.d := rfl
@[simp high] theorem AttrV_seal (x : Xv) : x.d.sealVal = some x.d := rfl
@[simp high] theorem AttrV_okVal (x : Xv) : x.d.okVal = true := rfl
@[simp high] theorem AttrV_stale (x : Xv) : x.d.stale = x.d := rfl
@[simp high] theorem AttrV_back (x : Xv) (σ : Sto) : x.d.handBack σ = some x.d := by rw [show x.d.handBack σ = x.d.sealVal.or (x.d.snapVal σ) from rfl, AttrV_seal x]; rfl
@[simp high] theorem AttrV_whole (x : Xv) : Qb 0 (some 5) [x.d] = some x.d := rfl
@[simp high] theorem AttrV_el (x : Xv) : Ql (some 5) [.elem x.row 0] = some x.d := rfl
@[simp high] theorem AttrV_wr (x : Xv) (c0 c1 c2 c3 c4 : Qa) : Qh 0 5 [.agg [c0, c1, c2, c3, c4], x.d] = some x.d := rfl
@[simp high] theorem AttrV_wr2 (x y : Xv) : Qh 0 5 [x.d, y.d] = some y.d := rfl
@[simp high] theorem AttrV_f_name (x : Xv) : Qb 0 none [x.d] = some (.str x.name) := rfl
@[simp high] theorem AttrV_e_name (x : Xv) : Ql none [.elem x.row 0] = some (.str x.name) := rfl
@[simp high] theorem AttrV_f_types (x : Xv) : Qb 1 (some 4) [x.d] = some x.types.d := rfl
@[simp high] theorem AttrV_e_types (x : Xv) : Ql (some 4) [.elem x.row 1] = some x.types.d := rfl
@[simp high] theorem RoleV_jbox (x : QQ) : Qm [x.d] = some x.d := rfl
@[simp high] theorem RoleV_seal (x : QQ) : x.d.sealVal = some x.d := rfl
@[simp high] theorem RoleV_okVal (x : QQ) : x.d.okVal = true := rfl
@[simp high] theorem RoleV_stale (x : QQ) : x.d.stale = x.d := rfl
@[simp high] theorem RoleV_back (x : QQ) (σ : Sto) : x.d.handBack σ = some x.d := by rw [show x.d.handBack σ = x.d.sealVal.or (x.d.snapVal σ) from rfl, RoleV_seal x]; rfl
@[simp high] theorem RoleV_whole (x : QQ) : Qb 0 (some 9) [x.d] = some x.d := rfl
@[simp high] theorem RoleV_el (x : QQ) : Ql (some 9) [.elem x.row 0] = some x.d := rfl
@[simp high] theorem RoleV_wr (x : QQ) (c0 c1 c2 c3 c4 c5 c6 c7 c8 : Qa) : Qh 0 9 [.agg [c0, c1, c2, c3, c4, c5, c6, c7, c8], x.d] = some x.d := rfl
@[simp high] theorem RoleV_wr2 (x y : QQ) : Qh 0 9 [x.d, y.d] = some y.d := rfl
@[simp high] theorem RoleV_f_name (x : QQ) : Qb 0 none [x.d] = some (.str x.name) := rfl
@[simp high] theorem RoleV_e_name (x : QQ) : Ql none [.elem x.row 0] = some (.str x.name) := rfl
@[simp high] theorem RoleV_f_types (x : QQ) : Qb 1 (some 4) [x.d] = some x.types.d := rfl
@[simp high] theorem RoleV_e_types (x : QQ) : Ql (some 4) [.elem x.row 1] = some x.types.d := rfl
@[simp high] theorem RoleV_f_next (x : QQ) : Qb 5 (some 4) [x.d] = some x.next.d := rfl
@[simp high] theorem RoleV_e_next (x : QQ) : Ql (some 4) [.elem x.row 5] = some x.next.d := rfl
@[simp high] theorem UserV_jbox (x : QU) : Qm [x.d] = some x.d := rfl
@[simp high] theorem UserV_seal (x : QU) : x.d.sealVal = some x.d := rfl
@[simp high] theorem UserV_okVal (x : QU) : x.d.okVal = true := rfl
@[simp high] theorem UserV_stale (x : QU) : x.d.stale = x.d := rfl
@[simp high] theorem UserV_back (x : QU) (σ : Sto) : x.d.handBack σ = some x.d := by rw [show x.d.handBack σ = x.d.sealVal.or (x.d.snapVal σ) from rfl, UserV_seal x]; rfl
@[simp high] theorem UserV_whole (x : QU) : Qb 0 (some 11) [x.d] = some x.d := rfl
@[simp high] theorem UserV_el (x : QU) : Ql (some 11) [.elem x.row 0] = some x.d := rfl
@[simp high] theorem UserV_wr (x : QU) (c0 c1 c2 c3 c4 c5 c6 c7 c8 c9 c10 : Qa) : Qh 0 11 [.agg [c0, c1, c2, c3, c4, c5, c6, c7, c8, c9, c10], x.d] = some x.d := rfl
@[simp high] theorem UserV_wr2 (x y : QU) : Qh 0 11 [x.d, y.d] = some y.d := rfl
@[simp high] theorem UserV_f_name (x : QU) : Qb 0 none [x.d] = some (.str x.name) := rfl
@[simp high] theorem UserV_e_name (x : QU) : Ql none [.elem x.row 0] = some (.str x.name) := rfl
@[simp high] theorem UserV_f_roles (x : QU) : Qb 1 (some 4) [x.d] = some x.roles.d := rfl
@[simp high] theorem UserV_e_roles (x : QU) : Ql (some 4) [.elem x.row 1] = some x.roles.d := rfl
@[simp high] theorem UserV_f_dflt (x : QU) : Qb 5 (some 2) [x.d] = some x.dflt.d := rfl
@[simp high] theorem UserV_e_dflt (x : QU) : Ql (some 2) [.elem x.row 5] = some x.dflt.d := rfl
@[simp high] theorem UserV_f_lo (x : QU) : Qb 7 (some 2) [x.d] = some x.lo.d := rfl
@[simp high] theorem UserV_e_lo (x : QU) : Ql (some 2) [.elem x.row 7] = some x.lo.d := rfl
@[simp high] theorem UserV_f_rng (x : QU) : Qb 7 (some 4) [x.d] = some (Yj x.lo x.hi) := rfl
@[simp high] theorem UserV_e_rng (x : QU) : Ql (some 4) [.elem x.row 7] = some (Yj x.lo x.hi) := rfl
@[simp high] theorem UserV_f_hi (x : QU) : Qb 9 (some 2) [x.d] = some x.hi.d := rfl
@[simp high] theorem UserV_e_hi (x : QU) : Ql (some 2) [.elem x.row 9] = some x.hi.d := rfl
@[simp high] theorem BoolV_jbox (x : Xb) : Qm [x.d] = some x.d := rfl
@[simp high] theorem BoolV_seal (x : Xb) : x.d.sealVal = some x.d := rfl
@[simp high] theorem BoolV_okVal (x : Xb) : x.d.okVal = true := rfl
@[simp high] theorem BoolV_stale (x : Xb) : x.d.stale = x.d := rfl
@[simp high] theorem BoolV_back (x : Xb) (σ : Sto) : x.d.handBack σ = some x.d := by rw [show x.d.handBack σ = x.d.sealVal.or (x.d.snapVal σ) from rfl, BoolV_seal x]; rfl
@[simp high] theorem BoolV_whole (x : Xb) : Qb 0 (some 2) [x.d] = some x.d := rfl
@[simp high] theorem BoolV_el (x : Xb) : Ql (some 2) [.elem x.row 0] = some x.d := rfl
@[simp high] theorem BoolV_wr (x : Xb) (c0 c1 : Qa) : Qh 0 2 [.agg [c0, c1], x.d] = some x.d := rfl
@[simp high] theorem BoolV_wr2 (x y : Xb) : Qh 0 2 [x.d, y.d] = some y.d := rfl
@[simp high] theorem BoolV_f_name (x : Xb) : Qb 0 none [x.d] = some (.str x.name) := rfl
@[simp high] theorem BoolV_e_name (x : Xb) : Ql none [.elem x.row 0] = some (.str x.name) := rfl
@[simp high] theorem BoolV_f_value (x : Xb) : Qb 1 none [x.d] = some (.bool x.value) := rfl
@[simp high] theorem BoolV_e_value (x : Xb) : Ql none [.elem x.row 1] = some (.bool x.value) := rfl
@[simp high] theorem RuleV_jbox (x : ZL) : Qm [x.d] = some x.d := rfl
@[simp high] theorem RuleV_seal (x : ZL) : x.d.sealVal = some x.d := rfl
@[simp high] theorem RuleV_okVal (x : ZL) : x.d.okVal = true := rfl
@[simp high] theorem RuleV_stale (x : ZL) : x.d.stale = x.d := rfl
@[simp high] theorem RuleV_back (x : ZL) (σ : Sto) : x.d.handBack σ = some x.d := by rw [show x.d.handBack σ = x.d.sealVal.or (x.d.snapVal σ) from rfl, RuleV_seal x]; rfl
@[simp high] theorem RuleV_whole (x : ZL) : Qb 0 (some 13) [x.d] = some x.d := rfl
@[simp high] theorem RuleV_el (x : ZL) : Ql (some 13) [.elem x.row 0] = some x.d := rfl
@[simp high] theorem RuleV_wr (x : ZL) (c0 c1 c2 c3 c4 c5 c6 c7 c8 c9 c10 c11 c12 : Qa) : Qh 0 13 [.agg [c0, c1, c2, c3, c4, c5, c6, c7, c8, c9, c10, c11, c12], x.d] = some x.d := rfl
@[simp high] theorem RuleV_wr2 (x y : ZL) : Qh 0 13 [x.d, y.d] = some y.d := rfl
@[simp high] theorem RuleV_f_kind (x : ZL) : Qb 0 none [x.d] = some (.int .i64 x.kind) := rfl
@[simp high] theorem RuleV_e_kind (x : ZL) : Ql none [.elem x.row 0] = some (.int .i64 x.kind) := rfl
@[simp high] theorem RuleV_f_source (x : ZL) : Qb 1 (some 4) [x.d] = some x.source.d := rfl
@[simp high] theorem RuleV_e_source (x : ZL) : Ql (some 4) [.elem x.row 1] = some x.source.d := rfl
@[simp high] theorem RuleV_f_target (x : ZL) : Qb 5 (some 4) [x.d] = some x.target.d := rfl
@[simp high] theorem RuleV_e_target (x : ZL) : Ql (some 4) [.elem x.row 5] = some x.target.d := rfl
@[simp high] theorem RuleV_f_self (x : ZL) : Qb 9 none [x.d] = some (.bool x.self) := rfl
@[simp high] theorem RuleV_e_self (x : ZL) : Ql none [.elem x.row 9] = some (.bool x.self) := rfl
@[simp high] theorem RuleV_f_cls (x : ZL) : Qb 10 none [x.d] = some (.int .i64 x.cls) := rfl
@[simp high] theorem RuleV_e_cls (x : ZL) : Ql none [.elem x.row 10] = some (.int .i64 x.cls) := rfl
@[simp high] theorem RuleV_f_perms (x : ZL) : Qb 11 none [x.d] = some (.int .u32 x.perms) := rfl
@[simp high] theorem RuleV_e_perms (x : ZL) : Ql none [.elem x.row 11] = some (.int .u32 x.perms) := rfl
@[simp high] theorem RuleV_f_cond (x : ZL) : Qb 12 none [x.d] = some (.int .i64 x.cond) := rfl
@[simp high] theorem RuleV_e_cond (x : ZL) : Ql none [.elem x.row 12] = some (.int .i64 x.cond) := rfl
@[simp high] theorem TransV_jbox (x : Zr) : Qm [x.d] = some x.d := rfl
@[simp high] theorem TransV_seal (x : Zr) : x.d.sealVal = some x.d := rfl
@[simp high] theorem TransV_okVal (x : Zr) : x.d.okVal = true := rfl
@[simp high] theorem TransV_stale (x : Zr) : x.d.stale = x.d := rfl
@[simp high] theorem TransV_back (x : Zr) (σ : Sto) : x.d.handBack σ = some x.d := by rw [show x.d.handBack σ = x.d.sealVal.or (x.d.snapVal σ) from rfl, TransV_seal x]; rfl
@[simp high] theorem TransV_whole (x : Zr) : Qb 0 (some 13) [x.d] = some x.d := rfl
@[simp high] theorem TransV_el (x : Zr) : Ql (some 13) [.elem x.row 0] = some x.d := rfl
@[simp high] theorem TransV_wr (x : Zr) (c0 c1 c2 c3 c4 c5 c6 c7 c8 c9 c10 c11 c12 : Qa) : Qh 0 13 [.agg [c0, c1, c2, c3, c4, c5, c6, c7, c8, c9, c10, c11, c12], x.d] = some x.d := rfl
@[simp high] theorem TransV_wr2 (x y : Zr) : Qh 0 13 [x.d, y.d] = some y.d := rfl
@[simp high] theorem TransV_f_kind (x : Zr) : Qb 0 none [x.d] = some (.int .i64 x.kind) := rfl
@[simp high] theorem TransV_e_kind (x : Zr) : Ql none [.elem x.row 0] = some (.int .i64 x.kind) := rfl
@[simp high] theorem TransV_f_source (x : Zr) : Qb 1 (some 4) [x.d] = some x.source.d := rfl
@[simp high] theorem TransV_e_source (x : Zr) : Ql (some 4) [.elem x.row 1] = some x.source.d := rfl
@[simp high] theorem TransV_f_target (x : Zr) : Qb 5 (some 4) [x.d] = some x.target.d := rfl
@[simp high] theorem TransV_e_target (x : Zr) : Ql (some 4) [.elem x.row 5] = some x.target.d := rfl
@[simp high] theorem TransV_f_cls (x : Zr) : Qb 9 none [x.d] = some (.int .i64 x.cls) := rfl
@[simp high] theorem TransV_e_cls (x : Zr) : Ql none [.elem x.row 9] = some (.int .i64 x.cls) := rfl
@[simp high] theorem TransV_f_name (x : Zr) : Qb 10 none [x.d] = some (.str x.name) := rfl
@[simp high] theorem TransV_e_name (x : Zr) : Ql none [.elem x.row 10] = some (.str x.name) := rfl
@[simp high] theorem TransV_f_result (x : Zr) : Qb 11 none [x.d] = some (.int .i64 x.result) := rfl
@[simp high] theorem TransV_e_result (x : Zr) : Ql none [.elem x.row 11] = some (.int .i64 x.result) := rfl
@[simp high] theorem TransV_f_cond (x : Zr) : Qb 12 none [x.d] = some (.int .i64 x.cond) := rfl
@[simp high] theorem TransV_e_cond (x : Zr) : Ql none [.elem x.row 12] = some (.int .i64 x.cond) := rfl
@[simp high] theorem RoleTransV_jbox (x : QO) : Qm [x.d] = some x.d := rfl
@[simp high] theorem GT (x : QO) : x.d.sealVal = some x.d := rfl
@[simp high] theorem RoleTransV_okVal (x : QO) : x.d.okVal = true := rfl
@[simp high] theorem RoleTransV_stale (x : QO) : x.d.stale = x.d := rfl
@[simp high] theorem RoleTransV_back (x : QO) (σ : Sto) : x.d.handBack σ = some x.d := by rw [show x.d.handBack σ = x.d.sealVal.or (x.d.snapVal σ) from rfl, GT x]; rfl
@[simp high] theorem RoleTransV_whole (x : QO) : Qb 0 (some 10) [x.d] = some x.d := rfl
@[simp high] theorem RoleTransV_el (x : QO) : Ql (some 10) [.elem x.row 0] = some x.d := rfl
@[simp high] theorem RoleTransV_wr (x : QO) (c0 c1 c2 c3 c4 c5 c6 c7 c8 c9 : Qa) : Qh 0 10 [.agg [c0, c1, c2, c3, c4, c5, c6, c7, c8, c9], x.d] = some x.d := rfl
@[simp high] theorem RoleTransV_wr2 (x y : QO) : Qh 0 10 [x.d, y.d] = some y.d := rfl
@[simp high] theorem RoleTransV_f_roles (x : QO) : Qb 0 (some 4) [x.d] = some x.roles.d := rfl
@[simp high] theorem RoleTransV_e_roles (x : QO) : Ql (some 4) [.elem x.row 0] = some x.roles.d := rfl
@[simp high] theorem RoleTransV_f_types (x : QO) : Qb 4 (some 4) [x.d] = some x.types.d := rfl
@[simp high] theorem RoleTransV_e_types (x : QO) : Ql (some 4) [.elem x.row 4] = some x.types.d := rfl
@[simp high] theorem RoleTransV_f_cls (x : QO) : Qb 8 none [x.d] = some (.int .i64 x.cls) := rfl
@[simp high] theorem RoleTransV_e_cls (x : QO) : Ql none [.elem x.row 8] = some (.int .i64 x.cls) := rfl
@[simp high] theorem RoleTransV_f_result (x : QO) : Qb 9 none [x.d] = some (.int .i64 x.result) := rfl
@[simp high] theorem RoleTransV_e_result (x : QO) : Ql none [.elem x.row 9] = some (.int .i64 x.result) := rfl
@[simp high] theorem RangeTransV_jbox (x : QA) : Qm [x.d] = some x.d := rfl
@[simp high] theorem Gy (x : QA) : x.d.sealVal = some x.d := rfl
@[simp high] theorem RangeTransV_okVal (x : QA) : x.d.okVal = true := rfl
@[simp high] theorem RangeTransV_stale (x : QA) : x.d.stale = x.d := rfl
@[simp high] theorem RangeTransV_back (x : QA) (σ : Sto) : x.d.handBack σ = some x.d := by rw [show x.d.handBack σ = x.d.sealVal.or (x.d.snapVal σ) from rfl, Gy x]; rfl
@[simp high] theorem RangeTransV_whole (x : QA) : Qb 0 (some 13) [x.d] = some x.d := rfl
@[simp high] theorem RangeTransV_el (x : QA) : Ql (some 13) [.elem x.row 0] = some x.d := rfl
@[simp high] theorem RangeTransV_wr (x : QA) (c0 c1 c2 c3 c4 c5 c6 c7 c8 c9 c10 c11 c12 : Qa) : Qh 0 13 [.agg [c0, c1, c2, c3, c4, c5, c6, c7, c8, c9, c10, c11, c12], x.d] = some x.d := rfl
@[simp high] theorem RangeTransV_wr2 (x y : QA) : Qh 0 13 [x.d, y.d] = some y.d := rfl
@[simp high] theorem RangeTransV_f_source (x : QA) : Qb 0 (some 4) [x.d] = some x.source.d := rfl
@[simp high] theorem RangeTransV_e_source (x : QA) : Ql (some 4) [.elem x.row 0] = some x.source.d := rfl
@[simp high] theorem RangeTransV_f_target (x : QA) : Qb 4 (some 4) [x.d] = some x.target.d := rfl
@[simp high] theorem RangeTransV_e_target (x : QA) : Ql (some 4) [.elem x.row 4] = some x.target.d := rfl
@[simp high] theorem RangeTransV_f_cls (x : QA) : Qb 8 none [x.d] = some (.int .i64 x.cls) := rfl
@[simp high] theorem RangeTransV_e_cls (x : QA) : Ql none [.elem x.row 8] = some (.int .i64 x.cls) := rfl
@[simp high] theorem RangeTransV_f_lo (x : QA) : Qb 9 (some 2) [x.d] = some x.lo.d := rfl
@[simp high] theorem RangeTransV_e_lo (x : QA) : Ql (some 2) [.elem x.row 9] = some x.lo.d := rfl
@[simp high] theorem RangeTransV_f_rng (x : QA) : Qb 9 (some 4) [x.d] = some (Yj x.lo x.hi) := rfl
@[simp high] theorem RangeTransV_e_rng (x : QA) : Ql (some 4) [.elem x.row 9] = some (Yj x.lo x.hi) := rfl
@[simp high] theorem RangeTransV_f_hi (x : QA) : Qb 11 (some 2) [x.d] = some x.hi.d := rfl
@[simp high] theorem RangeTransV_e_hi (x : QA) : Ql (some 2) [.elem x.row 11] = some x.hi.d := rfl
@[simp high] theorem SidV_jbox (x : ZD) : Qm [x.d] = some x.d := rfl
@[simp high] theorem SidV_seal (x : ZD) : x.d.sealVal = some x.d := rfl
@[simp high] theorem SidV_okVal (x : ZD) : x.d.okVal = true := rfl
@[simp high] theorem SidV_stale (x : ZD) : x.d.stale = x.d := rfl
@[simp high] theorem SidV_back (x : ZD) (σ : Sto) : x.d.handBack σ = some x.d := by rw [show x.d.handBack σ = x.d.sealVal.or (x.d.snapVal σ) from rfl, SidV_seal x]; rfl
@[simp high] theorem SidV_whole (x : ZD) : Qb 0 (some 8) [x.d] = some x.d := rfl
@[simp high] theorem SidV_el (x : ZD) : Ql (some 8) [.elem x.row 0] = some x.d := rfl
@[simp high] theorem SidV_wr (x : ZD) (c0 c1 c2 c3 c4 c5 c6 c7 : Qa) : Qh 0 8 [.agg [c0, c1, c2, c3, c4, c5, c6, c7], x.d] = some x.d := rfl
@[simp high] theorem SidV_wr2 (x y : ZD) : Qh 0 8 [x.d, y.d] = some y.d := rfl
@[simp high] theorem SidV_f_name (x : ZD) : Qb 0 none [x.d] = some (.str x.name) := rfl
@[simp high] theorem SidV_e_name (x : ZD) : Ql none [.elem x.row 0] = some (.str x.name) := rfl
@[simp high] theorem SidV_f_ctx (x : ZD) : Qb 1 (some 7) [x.d] = some x.ctx.d := rfl
@[simp high] theorem SidV_e_ctx (x : ZD) : Ql (some 7) [.elem x.row 1] = some x.ctx.d := rfl
@[simp high] theorem SidV_e_ctx_user (x : ZD) : Ql none [.elem x.row 1] = some (.int .i64 x.ctx.user) := rfl
@[simp high] theorem SidV_e_ctx_role (x : ZD) : Ql none [.elem x.row 2] = some (.int .i64 x.ctx.role) := rfl
@[simp high] theorem SidV_e_ctx_type (x : ZD) : Ql none [.elem x.row 3] = some (.int .i64 x.ctx.type) := rfl
@[simp high] theorem SidV_e_ctx_lo (x : ZD) : Ql (some 2) [.elem x.row 4] = some x.ctx.lo.d := rfl
@[simp high] theorem SidV_e_ctx_hi (x : ZD) : Ql (some 2) [.elem x.row 6] = some x.ctx.hi.d := rfl
@[simp high] theorem FileV_jbox (x : ZV) : Qm [x.d] = some x.d := rfl
@[simp high] theorem FileV_seal (x : ZV) : x.d.sealVal = some x.d := rfl
@[simp high] theorem FileV_okVal (x : ZV) : x.d.okVal = true := rfl
@[simp high] theorem FileV_stale (x : ZV) : x.d.stale = x.d := rfl
@[simp high] theorem FileV_back (x : ZV) (σ : Sto) : x.d.handBack σ = some x.d := by rw [show x.d.handBack σ = x.d.sealVal.or (x.d.snapVal σ) from rfl, FileV_seal x]; rfl
@[simp high] theorem FileV_whole (x : ZV) : Qb 0 (some 9) [x.d] = some x.d := rfl
@[simp high] theorem FileV_el (x : ZV) : Ql (some 9) [.elem x.row 0] = some x.d := rfl
@[simp high] theorem FileV_wr (x : ZV) (c0 c1 c2 c3 c4 c5 c6 c7 c8 : Qa) : Qh 0 9 [.agg [c0, c1, c2, c3, c4, c5, c6, c7, c8], x.d] = some x.d := rfl
@[simp high] theorem FileV_wr2 (x y : ZV) : Qh 0 9 [x.d, y.d] = some y.d := rfl
@[simp high] theorem FileV_f_pattern (x : ZV) : Qb 0 none [x.d] = some (.str x.pattern) := rfl
@[simp high] theorem FileV_e_pattern (x : ZV) : Ql none [.elem x.row 0] = some (.str x.pattern) := rfl
@[simp high] theorem FileV_f_kind (x : ZV) : Qb 1 none [x.d] = some (.int .i64 x.kind) := rfl
@[simp high] theorem FileV_e_kind (x : ZV) : Ql none [.elem x.row 1] = some (.int .i64 x.kind) := rfl
@[simp high] theorem FileV_f_ctx (x : ZV) : Qb 2 (some 7) [x.d] = some x.ctx.d := rfl
@[simp high] theorem FileV_e_ctx (x : ZV) : Ql (some 7) [.elem x.row 2] = some x.ctx.d := rfl
@[simp high] theorem FileV_e_ctx_user (x : ZV) : Ql none [.elem x.row 2] = some (.int .i64 x.ctx.user) := rfl
@[simp high] theorem FileV_e_ctx_role (x : ZV) : Ql none [.elem x.row 3] = some (.int .i64 x.ctx.role) := rfl
@[simp high] theorem FileV_e_ctx_type (x : ZV) : Ql none [.elem x.row 4] = some (.int .i64 x.ctx.type) := rfl
@[simp high] theorem FileV_e_ctx_lo (x : ZV) : Ql (some 2) [.elem x.row 5] = some x.ctx.lo.d := rfl
@[simp high] theorem FileV_e_ctx_hi (x : ZV) : Ql (some 2) [.elem x.row 7] = some x.ctx.hi.d := rfl
@[simp high] theorem AssertV_jbox (x : Zl) : Qm [x.d] = some x.d := rfl
@[simp high] theorem AssertV_seal (x : Zl) : x.d.sealVal = some x.d := rfl
@[simp high] theorem AssertV_okVal (x : Zl) : x.d.okVal = true := rfl
@[simp high] theorem AssertV_stale (x : Zl) : x.d.stale = x.d := rfl
@[simp high] theorem AssertV_back (x : Zl) (σ : Sto) : x.d.handBack σ = some x.d := by rw [show x.d.handBack σ = x.d.sealVal.or (x.d.snapVal σ) from rfl, AssertV_seal x]; rfl
@[simp high] theorem AssertV_whole (x : Zl) : Qb 0 (some 10) [x.d] = some x.d := rfl
@[simp high] theorem AssertV_el (x : Zl) : Ql (some 10) [.elem x.row 0] = some x.d := rfl
@[simp high] theorem AssertV_wr (x : Zl) (c0 c1 c2 c3 c4 c5 c6 c7 c8 c9 : Qa) : Qh 0 10 [.agg [c0, c1, c2, c3, c4, c5, c6, c7, c8, c9], x.d] = some x.d := rfl
@[simp high] theorem AssertV_wr2 (x y : Zl) : Qh 0 10 [x.d, y.d] = some y.d := rfl
@[simp high] theorem AssertV_f_name (x : Zl) : Qb 0 none [x.d] = some (.str x.name) := rfl
@[simp high] theorem AssertV_e_name (x : Zl) : Ql none [.elem x.row 0] = some (.str x.name) := rfl
@[simp high] theorem AssertV_f_kind (x : Zl) : Qb 1 none [x.d] = some (.int .i64 x.kind) := rfl
@[simp high] theorem AssertV_e_kind (x : Zl) : Ql none [.elem x.row 1] = some (.int .i64 x.kind) := rfl
@[simp high] theorem AssertV_f_source (x : Zl) : Qb 2 (some 4) [x.d] = some x.source.d := rfl
@[simp high] theorem AssertV_e_source (x : Zl) : Ql (some 4) [.elem x.row 2] = some x.source.d := rfl
@[simp high] theorem AssertV_f_target (x : Zl) : Qb 6 (some 4) [x.d] = some x.target.d := rfl
@[simp high] theorem AssertV_e_target (x : Zl) : Ql (some 4) [.elem x.row 6] = some x.target.d := rfl
@[simp high] theorem rng_jbox (l h : LvV) : Qm [Yj l h] = some (Yj l h) := rfl
@[simp high] theorem rng_seal (l h : LvV) : (Yj l h).sealVal = some (Yj l h) := rfl
@[simp high] theorem rng_okVal (l h : LvV) : (Yj l h).okVal = true := rfl
@[simp high] theorem rng_stale (l h : LvV) : (Yj l h).stale = Yj l h := rfl
@[simp high] theorem rng_back (l h : LvV) (σ : Sto) : (Yj l h).handBack σ = some (Yj l h) := rfl
@[simp high] theorem rng_whole (l h : LvV) : Qb 0 (some 4) [Yj l h] = some (Yj l h) := rfl
@[simp high] theorem rng_lo (l h : LvV) : Qb 0 (some 2) [Yj l h] = some l.d := rfl
@[simp high] theorem rng_hi (l h : LvV) : Qb 2 (some 2) [Yj l h] = some h.d := rfl
@[simp high] theorem pol_jbox (p : Qw) : Qm [p.d] = some p.d := by simp [Qm, Qw.d, Qw.row, Qa.cells]
@[simp high] theorem pol_whole (p : Qw) : Qb 0 (some 17) [p.d] = some p.d := rfl
@[simp high] theorem pol_back (p : Qw) (σ : Sto) : p.d.handBack σ = some p.d := by
 have h : p.d.handBack σ = p.d.sealVal.or (p.d.snapVal σ) := rfl
 rw [h, sealVal_pol]; rfl
section
variable {op a rel b : Int} {names : Sl Bs} {set : Q_} {kz : Zs} {kids : List QG}
def WH (kz : Zs) (kids : List QG) : Qa := slD kz 10 (kids.map QG.row)
@[simp high] theorem len_kids : Qf [WH kz kids] = some (.int .i64 kids.length) := by simp [WH]
@[simp high] theorem idx_kids {k : IntKind} {i : Int} : Qq 10 [WH kz kids, .int k i] = if 0 ≤ i then (kids[i.toNat]?).map λe=> .elem e.row 0 else none := by
 simp only [WH, idx_slD]
 split
 ·simp only [List.getElem?_map, Option.map_map, Function.comp_def]
 ·rfl
theorem XZ : (QG.mk op a rel b names set kz kids).d = .agg [.int .i64 op, .int .i64 a, .int .i64 rel, .int .i64 b, Z1 names, .int .u64 (set.w 0), .int .u64 (set.w 1), .int .u64 (set.w 2), .int .u64 (set.w 3), WH kz kids] := by
 rw [QG.d, QG.row_mk]; rfl
theorem expr_row : (QG.mk op a rel b names set kz kids).row = [.int .i64 op, .int .i64 a, .int .i64 rel, .int .i64 b, Z1 names, .int .u64 (set.w 0), .int .u64 (set.w 1), .int .u64 (set.w 2), .int .u64 (set.w 3), WH kz kids] := by
 rw [QG.row_mk]; rfl
@[simp high] theorem expr_op : Qb 0 none [(QG.mk op a rel b names set kz kids).d] = some (.int .i64 op) := by rw [XZ]; rfl
@[simp high] theorem expr_a : Qb 1 none [(QG.mk op a rel b names set kz kids).d] = some (.int .i64 a) := by rw [XZ]; rfl
@[simp high] theorem expr_rel : Qb 2 none [(QG.mk op a rel b names set kz kids).d] = some (.int .i64 rel) := by rw [XZ]; rfl
@[simp high] theorem expr_b : Qb 3 none [(QG.mk op a rel b names set kz kids).d] = some (.int .i64 b) := by rw [XZ]; rfl
@[simp high] theorem expr_names : Qb 4 none [(QG.mk op a rel b names set kz kids).d] = some (Z1 names) := by rw [XZ]; rfl
@[simp high] theorem expr_set : Qb 5 (some 4) [(QG.mk op a rel b names set kz kids).d] = some set.d := by rw [XZ]; rfl
@[simp high] theorem expr_kids : Qb 9 none [(QG.mk op a rel b names set kz kids).d] = some (WH kz kids) := by rw [XZ]; rfl
end
theorem Xp (e : QG) : ∃ op a rel b names set kz kids, e = QG.mk op a rel b names set kz kids := by
 cases e; exact ⟨_, _, _, _, _, _, _, _, rfl⟩
@[simp high] theorem expr_jbox (e : QG) : Qm [e.d] = some e.d := by
 obtain ⟨op, a, rel, b, names, set, kz, kids, rfl⟩ := Xp e
 rw [XZ]; simp [Qm, WH, Qa.cells]
@[simp high] theorem expr_seal (e : QG) : e.d.sealVal = some e.d := by
 obtain ⟨op, a, rel, b, names, set, kz, kids, rfl⟩ := Xp e
 rw [XZ]; simp [WH, Qa.sealVal, QN]
@[simp high] theorem expr_okVal (e : QG) : e.d.okVal = true := by
 obtain ⟨op, a, rel, b, names, set, kz, kids, rfl⟩ := Xp e
 rw [XZ]; simp [WH, Qa.okVal]
@[simp high] theorem expr_whole (e : QG) : Qb 0 (some 10) [e.d] = some e.d := by
 obtain ⟨op, a, rel, b, names, set, kz, kids, rfl⟩ := Xp e
 rw [XZ]; rfl
@[simp high] theorem expr_el (e : QG) : Ql (some 10) [.elem e.row 0] = some e.d := by
 obtain ⟨op, a, rel, b, names, set, kz, kids, rfl⟩ := Xp e
 rw [XZ, expr_row]; rfl
@[simp high] theorem expr_wr (e : QG) (c0 c1 c2 c3 c4 c5 c6 c7 c8 c9 : Qa) : Qh 0 10 [.agg [c0, c1, c2, c3, c4, c5, c6, c7, c8, c9], e.d] = some e.d := by
 obtain ⟨op, a, rel, b, names, set, kz, kids, rfl⟩ := Xp e
 rw [XZ]; simp [Qh, WH, Qa.cells, QX]
theorem XX (x : Zx) : ∃ op a rel b names set kz kids, x.expr = QG.mk op a rel b names set kz kids ∧ x.row = [.int .i64 x.cls, .int .u32 x.perms, .bool x.validate, .int .i64 op, .int .i64 a, .int .i64 rel, .int .i64 b, Z1 names, .int .u64 (set.w 0), .int .u64 (set.w 1), .int .u64 (set.w 2), .int .u64 (set.w 3), WH kz kids] := by
 obtain ⟨op, a, rel, b, names, set, kz, kids, h⟩ := Xp x.expr
 refine ⟨op, a, rel, b, names, set, kz, kids, h, ?_⟩
 unfold Zx.row
 rw [h, expr_row]; rfl
@[simp high] theorem ConstrV_el (x : Zx) : Ql (some 13) [.elem x.row 0] = some x.d := by
 obtain ⟨op, a, rel, b, names, set, kz, kids, -, h⟩ := XX x
 rw [Zx.d, h]; rfl
@[simp high] theorem ConstrV_wr (x : Zx) (c0 c1 c2 c3 c4 c5 c6 c7 c8 c9 c10 c11 c12 : Qa) : Qh 0 13 [.agg [c0, c1, c2, c3, c4, c5, c6, c7, c8, c9, c10, c11, c12], x.d] = some x.d := by
 obtain ⟨op, a, rel, b, names, set, kz, kids, -, h⟩ := XX x
 rw [Zx.d, h]; simp [Qh, WH, Qa.cells, QX]
@[simp high] theorem ConstrV_f_cls (x : Zx) : Qb 0 none [x.d] = some (.int .i64 x.cls) := by
 obtain ⟨op, a, rel, b, names, set, kz, kids, -, h⟩ := XX x
 rw [Zx.d, h]; rfl
@[simp high] theorem ConstrV_f_perms (x : Zx) : Qb 1 none [x.d] = some (.int .u32 x.perms) := by
 obtain ⟨op, a, rel, b, names, set, kz, kids, -, h⟩ := XX x
 rw [Zx.d, h]; rfl
@[simp high] theorem ConstrV_f_validate (x : Zx) : Qb 2 none [x.d] = some (.bool x.validate) := by
 obtain ⟨op, a, rel, b, names, set, kz, kids, -, h⟩ := XX x
 rw [Zx.d, h]; rfl
@[simp high] theorem ConstrV_f_expr (x : Zx) : Qb 3 (some 10) [x.d] = some x.expr.d := by
 obtain ⟨op, a, rel, b, names, set, kz, kids, e, h⟩ := XX x
 rw [Zx.d, h, e, XZ]; rfl
@[simp high] theorem ConstrV_e_expr (x : Zx) : Ql (some 10) [.elem x.row 3] = some x.expr.d := by
 obtain ⟨op, a, rel, b, names, set, kz, kids, e, h⟩ := XX x
 rw [h, e, XZ]; rfl
end Go.Proofs.YtdibpeknpmhknaaGreat
namespace Go.Proofs.YtdibpeknpmhknaaGreat
open Go
def Own (σ : Sto) (sz : Nat) (v : Qa) (l : List (List Qa)) : Prop :=
 (v = .nils ∧ l = []) ∨ v = .slice false 1 sz l ∨ ∃ t, v = .slice false (t + 3) sz l ∧ σ.fr t = l.length * sz
theorem X5 (σ : Sto) (sz : Nat) : Own σ sz .nils [] := .inl ⟨rfl, rfl⟩
theorem Js (σ : Sto) (sz : Nat) (l : List (List Qa)) : Own σ sz (.slice false 1 sz l) l := .inr (.inl rfl)
theorem GY {σ : Sto} {sz : Nat} {v x : Qa} {l new : List (List Qa)} (h : Own σ sz v l) (hx : XE x = some (false, new)) (hs : x.szOk sz = true) (hl : l.length + new.length ≤ 4294967296) :
  ∃ v' σ', QF false sz σ [v, x] = some (v', σ') ∧ Own σ' sz v' (l ++ new) := by
 have h0 : (false && !false || !x.szOk sz) = false := by rw [hs]; rfl
 replace hx : ∀ τ, Ye τ x = some (false, new) := λτ=> Gq hx
 rcases h with ⟨rfl, rfl⟩ | rfl | ⟨t, rfl, ht⟩
 ·cases new with
  | nil => exact ⟨.nils, σ, by simp [QF, XH, hx, hs], X5 σ sz⟩
  | cons e es =>
   have hl' : es.length + 1 ≤ QS := by simpa [QS] using hl
   refine ⟨.slice false (σ.ntok + 3) sz (e :: es), { σ with ntok := σ.ntok + 1, fr := upd σ.fr σ.ntok ((es.length + 1) * sz) }, by simp [QF, XH, hx, hs, hl'], .inr (.inr ⟨σ.ntok, by simp, by simp [upd]⟩)⟩
 ·cases new with
  | nil =>
   have hl' : l.length ≤ QS := by simpa [QS] using hl
   exact ⟨.slice false 1 sz l, σ, by simp [QF, XH, hx, hs, hl'], by rw [List.append_nil]; exact Js σ sz l⟩
  | cons e es =>
   have hl' : l.length + (es.length + 1) ≤ QS := by simpa [QS] using hl
   refine ⟨.slice false (σ.ntok + 3) sz (l ++ e :: es), { σ with ntok := σ.ntok + 1, fr := upd σ.fr σ.ntok ((l.length + (es.length + 1)) * sz) }, by simp [QF, XH, hx, hs, hl'], .inr (.inr ⟨σ.ntok, rfl, by simp [upd]⟩)⟩
 ·cases new with
  | nil =>
   have hl' : l.length ≤ QS := by simpa [QS] using hl
   exact ⟨.slice false (t + 3) sz l, σ, by simp [QF, XH, hx, hs, hl'], by rw [List.append_nil]; exact .inr (.inr ⟨t, rfl, ht⟩)⟩
  | cons e es =>
   have hl' : l.length + (es.length + 1) ≤ QS := by simpa [QS] using hl
   refine ⟨.slice false (t + 3) sz (l ++ e :: es), { σ with fr := upd σ.fr t ((l.length + (es.length + 1)) * sz) }, ?_, .inr (.inr ⟨t, rfl, by simp [upd]⟩)⟩
   simp [QF, XH, hx, hs, hl', ht]
theorem XD {σ : Sto} {sz own : Nat} {v : Qa} {l : List (List Qa)} {r : List Qa} (h : Own σ sz v l) (hl : l.length + 1 ≤ 4294967296) :
  ∃ v' σ', QF false sz σ [v, .slice false own sz [r]] = some (v', σ') ∧ Own σ' sz v' (l ++ [r]) :=
 GY h rfl (by simp [Qa.szOk]) (by simpa using hl)
theorem W9 {z : Zs} {sz : Nat} {l : List (List Qa)} : XE (slD z sz l) = some (false, l) := by
 cases z <;> cases l <;> rfl
theorem V6 {z : Zs} {sz : Nat} {l : List (List Qa)} : (slD z sz l).szOk sz = true := by
 cases z <;> cases l <;> simp [slD, Qa.szOk]
theorem X7 {σ : Sto} {sz : Nat} {v : Qa} {l : List (List Qa)} (h : Own σ sz v l) : ∃ z, v.sealVal = some (slD z sz l) := by
 rcases h with ⟨rfl, rfl⟩ | rfl | ⟨t, rfl, ht⟩
 ·exact ⟨.nil, rfl⟩
 ·exact ⟨.lit, rfl⟩
 ·refine ⟨.full, ?_⟩
  simp [Qa.sealVal, Qa.sealCell, slD]
theorem own_len {σ : Sto} {sz : Nat} {v : Qa} {l : List (List Qa)} (h : Own σ sz v l) : Qf [v] = some (.int .i64 l.length) := by
 rcases h with ⟨rfl, rfl⟩ | rfl | ⟨t, rfl, ht⟩ <;> rfl
theorem own_okVal {σ : Sto} {sz : Nat} {v : Qa} {l : List (List Qa)} (h : Own σ sz v l) : v.okVal = true := by
 rcases h with ⟨rfl, rfl⟩ | rfl | ⟨t, rfl, ht⟩
 ·rfl
 ·rfl
 ·simp [Qa.okVal, Qa.okCell]
theorem Xe {σ : Sto} {sz : Nat} {v : Qa} {l : List (List Qa)} (h : Own σ sz v l) : v.okCell = true := by
 rcases h with ⟨rfl, rfl⟩ | rfl | ⟨t, rfl, ht⟩
 ·rfl
 ·rfl
 ·simp [Qa.okCell]
theorem V_ {σ : Sto} {sz : Nat} {v : Qa} {l : List (List Qa)} (h : Own σ sz v l) : v.cells = [v] := by
 rcases h with ⟨rfl, rfl⟩ | rfl | ⟨t, rfl, ht⟩ <;> rfl
def Fresh (sz : Nat) (v : Qa) (l : List (List Qa)) : Prop := (v = .nils ∧ l = []) ∨ v = .slice false 1 sz l ∨ v = .slice false 2 sz l
theorem own_back {σ : Sto} {sz : Nat} {v : Qa} {l : List (List Qa)} (h : Own σ sz v l) : ∃ u, v.handBack σ = some u ∧ Fresh sz u l := by
 rcases h with ⟨rfl, rfl⟩ | rfl | ⟨t, rfl, ht⟩
 ·exact ⟨.nils, rfl, .inl ⟨rfl, rfl⟩⟩
 ·exact ⟨_, rfl, .inr (.inl rfl)⟩
 ·exact ⟨.slice false 2 sz l, by simp [Qa.handBack, ht], .inr (.inr rfl)⟩
theorem fresh_own {sz : Nat} {u : Qa} {l : List (List Qa)} (h : Fresh sz u l) (σ : Sto) : ∃ v σ', ZG σ u = (v, σ') ∧ Own σ' sz v l := by
 rcases h with ⟨rfl, rfl⟩ | rfl | rfl
 ·exact ⟨_, _, rfl, X5 _ _⟩
 ·exact ⟨_, _, rfl, Js _ _ _⟩
 ·exact ⟨.slice false (σ.ntok + 3) sz l, { σ with ntok := σ.ntok + 1, fr := upd σ.fr σ.ntok (l.length * sz) }, rfl, .inr (.inr ⟨σ.ntok, rfl, by simp [upd]⟩)⟩
end Go.Proofs.YtdibpeknpmhknaaGreat
