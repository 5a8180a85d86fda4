/- Texts of this proof, part 4: see the card for what is proved. -/
import Derived.Test.YtklepphkbbjbjaaDoorPc03
import Derived.OpenShut
import Derived.Carry
import Derived.DataReads
import Derived.Shelf.Vars
import Derived.Test.YtklepphkbbjbjaaDoorPc00
namespace Go.Proofs.YtklepphkbbjbjaaDoor
set_option linter.unusedVariables false
set_option linter.unusedSimpArgs false
open Go Go.RowKit
inductive Zs where
  | nil
  | empt
  | full
  | lit
deriving DecidableEq
def slD (z : Zs) (sz : Nat) (es : List (List DVal)) : DVal :=
  match z with
  | .nil => match es with
    | [] => .nils
    | e :: es => .slice false 0 sz (e :: es)
  | .empt => match es with
    | [] => .empt
    | e :: es => .slice false 0 sz (e :: es)
  | .full => .slice false 0 sz es
  | .lit => .slice false 1 sz es
def fieldsAt (P : Program) (rec : TypeId → Bool) (off : Nat) : List Field → Option Nat
  | [] => some off
  | f :: fs => if f.offset = off && rec f.type then fieldsAt P rec (off + P.cellsOf f.type) fs else none
def plainT (P : Program) (S : List TypeId) (t : TypeId) : Bool :=
  match P.underlying t with
  | some .bool | some (.int _) | some .string => true
  | some (.slice e) => S.contains e && Nat.blt 0 (P.cellsOf e)
  | some (.array len e) => S.contains e && Nat.beq (P.cellsOf t) (len * P.cellsOf e)
  | some (.struct fs) => match fieldsAt P S.contains 0 fs.toList with
    | some k => Nat.beq k (P.cellsOf t)
    | none => false
  | _ => false
def plainS (P : Program) (S : List TypeId) : Bool := S.all (plainT P S)
def DTy (P : Program) : Nat → TypeId → List DVal → Prop
  | 0, _, _ => False
  | n + 1, t, cs => match P.underlying t with
    | some .bool => ∃ b, cs = [.bool b]
    | some (.int k) => ∃ i, cs = [.int k i] ∧ (Lit.int k i).wf = true
    | some .string => ∃ s, cs = [.str s] ∧ s.length ≤ maxLen
    | some (.slice e) => ∃ z es, cs = [slD z (P.cellsOf e) es] ∧ (∀ r ∈ es, DTy P n e r) ∧ es.length ≤ maxLen
    | some (.array len e) => ∃ rows : List (List DVal), rows.length = len ∧ (∀ r ∈ rows, DTy P n e r) ∧ cs = rows.flatten
    | some (.struct fs) => fs.toList.foldr (fun f K cs => ∃ a b, cs = a ++ b ∧ DTy P n f.type a ∧ K b) (fun cs => cs = []) cs
    | _ => False
def DTyArg (P : Program) (k : Nat) (t : TypeId) (d : DVal) : Prop :=
  match P.underlying t with
  | some (.struct _) | some (.array _ _) => ∃ cs, d = .agg cs ∧ DTy P k t cs
  | _ => DTy P k t [d]
def DTyArgs (P : Program) (k : Nat) : List TypeId → List DVal → Prop
  | [], ds => ds = []
  | t :: ts, ds => ∃ d es, ds = d :: es ∧ DTyArg P k t d ∧ DTyArgs P k ts es
section
variable {H : Type} {enc : TypeId × Value → H} {P : Program} {w : World} {spare : Nat → Bool} {held : Bool}
def oldI (w : World) (b n : Nat) : Prop := b < w.heap.size
theorem imm_old {b n : Nat} : (VI (oldI w) w.heap.size).imm b n ↔ b < w.heap.size := by rw [VI_imm]; exact ⟨fun h => h.1, fun h => ⟨h, h⟩⟩
abbrev VO (w : World) : Vw := VI (oldI w) w.heap.size
theorem row_of_cells {b : Nat} : ∀ {ds : List DVal} {cs : List Value} {off : Nat}, (∀ i v, cs[i]? = some v → w.cell? ⟨b, off + i, none⟩ = some v) → (∀ v ∈ cs, v.oneCell' = true) → (0 < cs.length → b < w.heap.size) → VRels (VO w) w 2 ds cs → RowRel (VO w) w 2 b off ds
  | [], cs, off, _, _, _, _ => by simp only [RowRel]
  | d :: ds, cs, off, hc, h1, hb, h => by
    simp only [VRels] at h
    obtain ⟨v, us, rfl, hv, hr⟩ := h
    simp only [RowRel]
    refine ⟨imm_old.2 (hb (by simp)), ⟨v, hc 0 v rfl, h1 v (by simp), hv⟩, ?_⟩
    refine row_of_cells (cs := us) (fun i u hu => ?_) (fun u hu => h1 u (by simp [hu])) (fun _ => hb (by simp)) hr
    have := hc (i + 1) u (by simpa using hu)
    rwa [show off + 1 + i = off + (i + 1) by omega]
theorem array_cells {D : List DVal → Prop} {w : World} {cs : List Value} {n c : Nat} (hl : cs.length = n * c)
    (h : ∀ i, i < n → ∃ ds, D ds ∧ VRels (VO w) w 2 ds ((cs.drop (i * c)).take c) ∧ ∀ v ∈ (cs.drop (i * c)).take c, v.oneCell' = true) :
    ∃ rows : List (List DVal), rows.length = n ∧ (∀ r ∈ rows, D r) ∧ VRels (VO w) w 2 rows.flatten cs ∧ ∀ v ∈ cs, v.oneCell' = true := by
  have key : ∀ m, m ≤ n → ∃ rows : List (List DVal), rows.length = m ∧ (∀ r ∈ rows, D r) ∧ VRels (VO w) w 2 rows.flatten (cs.drop ((n - m) * c)) ∧ ∀ v ∈ cs.drop ((n - m) * c), v.oneCell' = true := by
    intro m
    induction m with
    | zero =>
      intro _
      have : cs.drop ((n - 0) * c) = [] := List.drop_of_length_le (by rw [Nat.sub_zero, hl]; exact Nat.le_refl _)
      rw [this]
      exact ⟨[], rfl, by simp, by simp [VRels], by simp⟩
    | succ m ih =>
      intro hm
      obtain ⟨rows, r1, r2, r3, r4⟩ := ih (by omega)
      obtain ⟨ds, d1, d2, d3⟩ := h (n - (m + 1)) (by omega)
      have e : (n - (m + 1)) * c + c = (n - m) * c := by rw [show n - m = (n - (m + 1)) + 1 by omega, Nat.add_mul]; omega
      have hsplit : cs.drop ((n - (m + 1)) * c) = (cs.drop ((n - (m + 1)) * c)).take c ++ cs.drop ((n - m) * c) := by
        rw [← e, ← List.drop_drop, List.take_append_drop]
      refine ⟨ds :: rows, by simp [r1], by simpa using ⟨d1, r2⟩, ?_, ?_⟩
      · rw [hsplit, List.flatten_cons]; exact d2.append r3
      · rw [hsplit]
        intro v hv
        rcases List.mem_append.1 hv with hv | hv
        · exact d3 v hv
        · exact r4 v hv
  have := key n (Nat.le_refl _)
  simpa using this
theorem fields_cells {rec : TypeId → Bool} {D : TypeId → List DVal → Prop} {w : World} {cs : List Value} :
    ∀ (fs : List Field) (off k : Nat), fieldsAt P rec off fs = some k → off ≤ cs.length → k = cs.length →
      (∀ f, f ∈ fs → rec f.type = true → f.offset + P.cellsOf f.type ≤ cs.length → ∃ ds, D f.type ds ∧ VRels (VO w) w 2 ds ((cs.drop f.offset).take (P.cellsOf f.type)) ∧ ∀ v ∈ (cs.drop f.offset).take (P.cellsOf f.type), v.oneCell' = true) →
      ∃ ds, fs.foldr (fun f K cs => ∃ a b, cs = a ++ b ∧ D f.type a ∧ K b) (fun cs => cs = []) ds ∧ VRels (VO w) w 2 ds (cs.drop off) ∧ ∀ v ∈ cs.drop off, v.oneCell' = true
  | [], off, k, h, hle, hk, _ => by
    simp only [fieldsAt, Option.some.injEq] at h
    subst h hk
    rw [List.drop_length]
    exact ⟨[], rfl, by simp [VRels], by simp⟩
  | f :: fs, off, k, h, hle, hk, hf => by
    simp only [fieldsAt] at h
    split at h
    · rename_i hc
      simp only [Bool.and_eq_true, decide_eq_true_eq] at hc
      obtain ⟨rfl, hr⟩ := hc
      have hkle : ∀ (gs : List Field) (o q : Nat), fieldsAt P rec o gs = some q → o ≤ q := by
        intro gs
        induction gs with
        | nil => intro o q h; simp only [fieldsAt, Option.some.injEq] at h; omega
        | cons g gs ih =>
          intro o q h
          simp only [fieldsAt] at h
          split at h
          · have := ih _ _ h; omega
          · cases h
      have hle2 : f.offset + P.cellsOf f.type ≤ cs.length := by have := hkle _ _ _ h; omega
      obtain ⟨ds1, a1, a2, a3⟩ := hf f (by simp) hr hle2
      obtain ⟨ds2, b1, b2, b3⟩ := fields_cells fs _ k h hle2 hk (fun g hg => hf g (by simp [hg]))
      have hsplit : cs.drop f.offset = (cs.drop f.offset).take (P.cellsOf f.type) ++ cs.drop (f.offset + P.cellsOf f.type) := by
        rw [← List.drop_drop, List.take_append_drop]
      refine ⟨ds1 ++ ds2, ⟨ds1, ds2, rfl, a1, b1⟩, ?_, ?_⟩
      · rw [hsplit]; exact a2.append b2
      · rw [hsplit]
        intro v hv
        rcases List.mem_append.1 hv with hv | hv
        · exact a3 v hv
        · exact b3 v hv
    · cases h
theorem trod_cells {S : List TypeId} (hS : plainS P S = true) : ∀ (k : Nat) (t : TypeId), t ∈ S → ∀ (cs : List Value) (x : DataW H × List MemPlace), DataW.trod enc P w 0 (fun _ => true) held k t cs = some x →
    ∃ ds, DTy P k t ds ∧ VRels (VO w) w 2 ds cs ∧ ∀ v ∈ cs, v.oneCell' = true
  | 0, t, _, _, _, h => by simp [DataW.trod] at h
  | k + 1, t, ht, cs, x, h => by
    have ih := trod_cells hS k
    have hp : plainT P S t = true := by
      unfold plainS at hS
      rw [List.all_eq_true] at hS
      exact hS t ht
    unfold plainT at hp
    unfold DTy
    split at hp
    · rename_i hu
      obtain ⟨b, rfl, -⟩ := DataW.trod_bool hu h
      exact ⟨[.bool b], ⟨b, rfl⟩, ⟨_, [], rfl, by simp [VRel], by simp [VRels]⟩, by simp [Value.oneCell']⟩
    · rename_i kk hu
      obtain ⟨n, rfl, -, hw⟩ := DataW.trod_int hu h
      exact ⟨[.int kk n], ⟨n, rfl, hw⟩, ⟨_, [], rfl, by simp [VRel], by simp [VRels]⟩, by simp [Value.oneCell']⟩
    · rename_i hu
      obtain ⟨s, rfl, -, hs⟩ := DataW.trod_string hu h
      exact ⟨[.str s.data.toList], ⟨_, rfl, by rw [Array.length_toList]; exact hs⟩, ⟨_, [], rfl, by simp [VRel], by simp [VRels]⟩, by simp [Value.oneCell']⟩
    · rename_i e hu
      simp only [Bool.and_eq_true, Nat.blt_eq, List.contains_iff_mem] at hp
      rcases DataW.trod_slice hu h with ⟨rfl, -⟩ | ⟨a, len, cap, elems, rest, n, hn, rfl, rfl, -, hlc, hcap, hlen, hel, hrest, -⟩
      · exact ⟨[.nils], ⟨.nil, [], rfl, by simp, Nat.zero_le _⟩, ⟨_, [], rfl, by simp [VRel], by simp [VRels]⟩, by simp [Value.oneCell']⟩
      · obtain rfl : n = k := by omega
        by_cases h0 : cap = 0
        · subst h0
          obtain rfl : len = 0 := by omega
          exact ⟨[.empt], ⟨.empt, [], rfl, by simp, Nat.zero_le _⟩, ⟨_, [], rfl, by simp [VRel], by simp [VRels]⟩, by simp [Value.oneCell']⟩
        have hspot : a.spot = none := by
          have hread : ∃ cs', w.cells? 0 (a.add (0 * P.cellsOf e)) (P.cellsOf e) = some cs' := by
            by_cases hl0 : len = 0
            · have := (hrest rfl).2 0 (by omega)
              have hl := (hrest rfl).1
              rw [List.getElem?_eq_getElem (by omega), Option.bind_eq_some_iff] at this
              obtain ⟨cs', hc', -⟩ := this
              exact ⟨cs', by simpa [hl0] using hc'⟩
            · have := hel 0 (by omega)
              rw [List.getElem?_eq_getElem (by omega), Option.bind_eq_some_iff] at this
              obtain ⟨cs', hc', -⟩ := this
              exact ⟨cs', hc'⟩
          obtain ⟨cs', hc'⟩ := hread
          obtain ⟨-, hl', hget⟩ := World.cells?_some hc'
          have := hget 0 hp.2
          rw [List.getElem?_eq_getElem (by omega)] at this
          have := World.cell?_spot this
          simpa [Addr.add] using this
        obtain ⟨b, off, spot⟩ := a
        simp only at hspot
        subst hspot
        have key : ∀ m, m ≤ len → ∃ es : List (List DVal), es.length = m ∧ (∀ r ∈ es, DTy P n e r) ∧ RowsRel (VO w) w 2 b (P.cellsOf e) (off + (len - m) * P.cellsOf e) es := by
          intro m
          induction m with
          | zero => intro _; exact ⟨[], rfl, by simp, by simp only [RowsRel]⟩
          | succ m ihm =>
            intro hm
            obtain ⟨es, e1, e2, e3⟩ := ihm (by omega)
            have hi := hel (len - (m + 1)) (by omega)
            have hlt : len - (m + 1) < elems.length := by omega
            rw [List.getElem?_eq_getElem hlt, Option.bind_eq_some_iff] at hi
            obtain ⟨cs', hc', ht'⟩ := hi
            obtain ⟨ds, d1, d2, d3⟩ := ih e hp.1 cs' _ ht'
            obtain ⟨-, hl', hget⟩ := World.cells?_some hc'
            have hcell : ∀ i v, cs'[i]? = some v → w.cell? ⟨b, off + (len - (m + 1)) * P.cellsOf e + i, none⟩ = some v := by
              intro i v hv
              have hi' : i < P.cellsOf e := by rw [← hl']; exact (List.getElem?_eq_some_iff.1 hv).1
              have := hget i hi'
              rw [hv] at this
              rw [← this]
              congr 1
              simp only [Addr.add]
              split <;> split <;> simp_all <;> omega
            have hb : 0 < cs'.length → b < w.heap.size := by
              intro h0
              have := hcell 0 cs'[0] (by rw [List.getElem?_eq_getElem h0])
              unfold World.cell? at this
              simp only at this
              split at this
              · rename_i hh; exact (Array.getElem?_eq_some_iff.1 hh).1
              · cases this
            have hrow := row_of_cells (w := w) (b := b) (off := off + (len - (m + 1)) * P.cellsOf e) hcell d3 hb d2
            refine ⟨ds :: es, by simp [e1], by simpa using ⟨d1, e2⟩, ?_⟩
            simp only [RowsRel]
            refine ⟨by rw [← d2.length, hl'], hrow, ?_⟩
            have : off + (len - (m + 1)) * P.cellsOf e + P.cellsOf e = off + (len - m) * P.cellsOf e := by
              rw [show len - m = (len - (m + 1)) + 1 by omega, Nat.add_mul]; omega
            rw [this]
            exact e3
        obtain ⟨es, e1, e2, e3⟩ := key len (Nat.le_refl _)
        have hsl : slD .full (P.cellsOf e) es = .slice false 0 (P.cellsOf e) es := by cases es <;> rfl
        refine ⟨[.slice false 0 (P.cellsOf e) es], ⟨.full, es, by rw [hsl], e2, by omega⟩, ⟨_, [], rfl, ?_, by simp [VRels]⟩, by simp [Value.oneCell']⟩
        simp only [VRel]
        refine ⟨.inr ⟨trivial, by omega⟩, b, off, cap, by rw [e1], by omega, ⟨by omega, by omega, by omega⟩, ?_⟩
        simpa [emode] using e3
    · rename_i len e hu
      simp only [Bool.and_eq_true, List.contains_iff_mem] at hp
      have hp2 := Nat.eq_of_beq_eq_true hp.2
      obtain ⟨xs, n, hn, rfl, hlen, hxs, hget⟩ := DataW.trod_array hu h
      obtain rfl : n = k := by omega
      obtain ⟨rows, r1, r2, r3, r4⟩ := array_cells (D := DTy P n e) (w := w) (cs := cs) (n := len) (c := P.cellsOf e) (by omega) (fun i hi => by
        have hx := hget i hi
        rw [List.getElem?_eq_getElem (by omega)] at hx
        exact ih e hp.1 _ _ hx)
      exact ⟨rows.flatten, ⟨rows, r1, r2, rfl⟩, r3, r4⟩
    · rename_i fs hu
      split at hp
      · rename_i q hq
        have hq' := Nat.eq_of_beq_eq_true hp
        obtain ⟨xs, n, hn, rfl, hlen, hxs, hget⟩ := DataW.trod_struct hu h
        obtain rfl : n = k := by omega
        have := fields_cells (P := P) (rec := S.contains) (D := DTy P n) (w := w) (cs := cs) fs.toList 0 q hq (Nat.zero_le _) (by omega) (by
          intro f hf hr _
          obtain ⟨i, hi⟩ := List.getElem?_of_mem hf
          rw [Array.getElem?_toList] at hi
          have hx := hget i f hi
          have hix : i < xs.length := by rw [hxs]; exact (Array.getElem?_eq_some_iff.1 hi).1
          rw [List.getElem?_eq_getElem hix] at hx
          exact ih f.type (List.contains_iff_mem.1 hr) _ _ hx)
        simpa using this
      · cases hp
    · cases hp
theorem dty_mono : ∀ {k m : Nat} {t : TypeId} {cs : List DVal}, k ≤ m → DTy P k t cs → DTy P m t cs
  | 0, _, _, _, _, h => h.elim
  | k + 1, m, t, cs, hm, h => by
    obtain ⟨m, rfl⟩ : ∃ q, m = q + 1 := ⟨m - 1, by omega⟩
    have ih : ∀ {t : TypeId} {cs : List DVal}, DTy P k t cs → DTy P m t cs := fun h => dty_mono (by omega) h
    unfold DTy at h ⊢
    split at h
    · exact h
    · exact h
    · exact h
    · obtain ⟨z, es, h1, h2, h3⟩ := h
      exact ⟨z, es, h1, fun r hr => ih (h2 r hr), h3⟩
    · obtain ⟨rows, h1, h2, h3⟩ := h
      exact ⟨rows, h1, fun r hr => ih (h2 r hr), h3⟩
    · rename_i fs hu
      have key : ∀ (fs : List Field) (cs : List DVal), fs.foldr (fun f K cs => ∃ a b, cs = a ++ b ∧ DTy P k f.type a ∧ K b) (fun cs => cs = []) cs → fs.foldr (fun f K cs => ∃ a b, cs = a ++ b ∧ DTy P m f.type a ∧ K b) (fun cs => cs = []) cs := by
        intro fs
        induction fs with
        | nil => exact fun cs h => h
        | cons f fs ihf =>
          rintro cs ⟨a, b, h1, h2, h3⟩
          exact ⟨a, b, h1, ih h2, ihf b h3⟩
      exact key _ _ h
    · exact h.elim
theorem dtyArg_mono {k m : Nat} {t : TypeId} {d : DVal} (hm : k ≤ m) (h : DTyArg P k t d) : DTyArg P m t d := by
  unfold DTyArg at h ⊢
  split at h
  · obtain ⟨cs, h1, h2⟩ := h; exact ⟨cs, h1, dty_mono hm h2⟩
  · obtain ⟨cs, h1, h2⟩ := h; exact ⟨cs, h1, dty_mono hm h2⟩
  · exact dty_mono hm h
theorem dtyArgs_mono {k m : Nat} (hm : k ≤ m) : ∀ {ts : List TypeId} {ds : List DVal}, DTyArgs P k ts ds → DTyArgs P m ts ds
  | [], _, h => h
  | _ :: _, _, ⟨d, es, h1, h2, h3⟩ => ⟨d, es, h1, dtyArg_mono hm h2, dtyArgs_mono hm h3⟩
theorem arg_rel {S : List TypeId} (hS : plainS P S = true) {t : TypeId} (ht : t ∈ S) {v : Value} {d : DataW H} {p : List MemPlace} {base : Nat} (hok : Value.okWide P w .any base t v)
    (h : DataW.Trod enc P w 0 (fun _ => true) held t v d p) : ∃ k D, DTyArg P k t D ∧ VRel (VO w) w 2 D v := by
  obtain ⟨fuel, h⟩ := h
  obtain ⟨ds, h1, h2, h3⟩ := trod_cells hS fuel t ht _ _ h
  have hp : plainT P S t = true := by
    unfold plainS at hS
    rw [List.all_eq_true] at hS
    exact hS t ht
  have hagg : (∃ cs, v = .agg cs) → ∃ D, D = .agg ds ∧ VRel (VO w) w 2 D v := by
    rintro ⟨cs, rfl⟩
    refine ⟨.agg ds, rfl, ?_⟩
    simp only [VRel]; exact ⟨cs, rfl, h2⟩
  by_cases hs : (∃ fs, P.underlying t = some (.struct fs)) ∨ ∃ n e, P.underlying t = some (.array n e)
  · obtain ⟨D, rfl, hD⟩ := hagg (by
      unfold Value.okWide at hok
      rcases hs with ⟨fs, hs⟩ | ⟨n, e, hs⟩ <;> rw [hs] at hok <;> obtain ⟨cs, rfl, -⟩ := hok <;> exact ⟨cs, rfl⟩)
    refine ⟨fuel, .agg ds, ?_, hD⟩
    unfold DTyArg
    rcases hs with ⟨fs, hs⟩ | ⟨n, e, hs⟩ <;> rw [hs] <;> exact ⟨ds, rfl, h1⟩
  · have hs1 : ∀ fs, P.underlying t ≠ some (.struct fs) := fun fs e => hs (.inl ⟨fs, e⟩)
    have hs2 : ∀ n e, P.underlying t ≠ some (.array n e) := fun n e he => hs (.inr ⟨n, e, he⟩)
    have hok' : Cell.okWide P w .any base t v := by
      unfold Value.okWide at hok
      split at hok
      · rename_i fs e; exact absurd e (hs1 fs)
      · rename_i n e he; exact absurd he (hs2 n e)
      · exact hok
    have hv : v.cells.toList = [v] := by
      cases v with
      | agg cs =>
        exfalso
        unfold Cell.okWide Cell.ok at hok'
        cases hu : P.underlying t with
        | none => rw [hu] at hok'; exact hok'
        | some d => rw [hu] at hok'; unfold plainT at hp; rw [hu] at hp; cases d <;> simp at hok' hp
      | _ => rfl
    rw [hv] at h2
    have hl := h2.length
    match ds, hl, h1, h2 with
    | [D], _, h1, h2 =>
      refine ⟨fuel, D, ?_, ?_⟩
      · unfold DTyArg
        split
        · rename_i fs e; exact absurd e (hs1 fs)
        · rename_i n e he; exact absurd he (hs2 n e)
        · exact h1
      · simp only [VRels] at h2
        obtain ⟨u, us, e, h3, -⟩ := h2
        simp only [List.cons.injEq] at e
        rw [e.1]; exact h3
theorem args_rel {S : List TypeId} (hS : plainS P S = true) {base : Nat} : ∀ {ts : List TypeId} {vs : List Value} {ds : List (DataW H)} {p : List MemPlace}, ts.all S.contains = true → (∀ (j : Nat) t v, ts[j]? = some t → vs[j]? = some v → Value.okWide P w .any base t v) →
    DataW.TrodAll enc P w 0 (fun _ => true) held ts vs ds p → ∃ k Ds, DTyArgs P k ts Ds ∧ VRels (VO w) w 2 Ds vs
  | [], [], [], p, _, _, h => ⟨0, [], rfl, by simp [VRels]⟩
  | t :: ts, v :: vs, d :: ds, p, hp, hok, h => by
    simp only [List.all_cons, Bool.and_eq_true, List.contains_iff_mem] at hp
    obtain ⟨p1, q1, h1, h2, -⟩ := h
    obtain ⟨k1, D, a1, a2⟩ := arg_rel hS hp.1 (hok 0 t v rfl rfl) h1
    obtain ⟨k2, Ds, b1, b2⟩ := args_rel hS (by simpa using hp.2) (fun j t v ht hv => hok (j + 1) t v (by simpa using ht) (by simpa using hv)) h2
    exact ⟨k1 + k2, D :: Ds, ⟨D, Ds, rfl, dtyArg_mono (by omega) a1, dtyArgs_mono (by omega) b1⟩, ⟨v, vs, rfl, a2, b2⟩⟩
  | [], _ :: _, _, _, _, _, h => h.elim
  | [], [], _ :: _, _, _, _, h => h.elim
  | _ :: _, [], _, _, _, _, h => h.elim
  | _ :: _, _ :: _, [], _, _, _, h => h.elim
theorem trodAll_below (hl : laidOutB P = true) {W' : World} (hb : Below w.heap.size w W') {sp : Nat → Bool} : ∀ {ts : List TypeId} {vs : List Value} {ds : List (DataW H)} {p : List MemPlace}, (∀ t, t ∈ ts → P.readableRec t = true ∧ t < P.types.size) →
    DataW.TrodAll enc P w 0 (fun _ => true) true ts vs ds p → (∀ x ∈ p, x.block < w.heap.size) → (∀ x ∈ p, sp x.block = true) → DataW.TrodAll enc P W' 0 sp true ts vs ds p
  | [], [], [], p, _, h, _, _ => h
  | t :: ts, v :: vs, d :: ds, p, ht, h, hlt, hsp => by
    obtain ⟨p1, q1, h1, h2, rfl⟩ := h
    exact ⟨p1, q1, WideElems.Trod_stays hl (ht t (by simp)).1 (ht t (by simp)).2 h1 (fun x hx => hb.same (hlt x (by simp [hx]))) (fun x hx => hsp x (by simp [hx])),
      trodAll_below hl hb (fun u hu => ht u (by simp [hu])) h2 (fun x hx => hlt x (by simp [hx])) (fun x hx => hsp x (by simp [hx])), rfl⟩
  | [], _ :: _, _, _, _, h, _, _ => h.elim
  | [], [], _ :: _, _, _, h, _, _ => h.elim
  | _ :: _, [], _, _, _, h, _, _ => h.elim
  | _ :: _, _ :: _, [], _, _, h, _, _ => h.elim
theorem post_of_true {fn : Func} {s : ChangeSpec} {apart fresh handsOn again : Bool} {W' : World} {args : Array Value} {ds gs : List (DataW H)} {before : List MemPlace} {tb : TypeId}
    (hW : DataW.Whole enc P fn.params.toList s.vars apart w args.toList ds gs before) (hvars : s.vars = []) (hres : fn.resultTypes = #[tb]) (htb : P.underlying tb = some .bool)
    (hspec : s.fn H (ds ++ gs) = { results := [.lit (.bool true)], args := ds, vars := [] }) (hl : laidOutB P = true) (ht : ∀ t, t ∈ fn.params.toList → P.readableRec t = true ∧ t < P.types.size) (hb : Below w.heap.size w W') :
    s.post enc P fn apart fresh handsOn again w args (.bool true) W' := by
  obtain ⟨p, q, hA, hV, hpq, hz, hn⟩ := id hW
  rw [hvars] at hV
  have hq : gs = [] ∧ q = [] := by
    cases gs with
    | nil => exact ⟨rfl, hV⟩
    | cons g gs => exact hV.elim
  obtain ⟨rfl, rfl⟩ := hq
  rw [List.append_nil] at hpq hspec
  subst hpq
  have hlt := hW.lt
  have hargs : ∀ sp : Nat → Bool, (∀ x ∈ before, sp x.block = true) → DataW.TrodAll enc P W' 0 sp true fn.params.toList args.toList ds before := fun sp hsp => trodAll_below hl hb ht hA hlt hsp
  have hr : ∀ (b : Nat) (sp : Nat → Bool) (hd : Bool), DataW.TrodAll enc P W' b sp hd fn.resultTypes.toList ((Value.bool true).resultList fn.resultTypes.size) [.lit (.bool true)] [] := by
    intro b sp hd
    rw [hres]
    exact ⟨[], [], shut_bool htb true, rfl, rfl⟩
  have hold : ∀ x ∈ before, (fun b => decide (b < w.heap.size)) x.block = true := fun x hx => by simpa using hlt x hx
  have hvv : ∀ sp, DataW.TrodVars enc P W' sp s.vars [] [] := fun sp => by rw [hvars]; rfl
  refine ⟨ds, [], before, [], before, [], hW, by simpa [hspec] using hr _ _ _, by simpa [hspec] using hargs _ hold, by simpa [hspec] using hvv _, World.keptBut_mono (fun x hx => ⟨hx, by simpa using hx⟩) (hb.frame (· ∈ before)), fun _ => ?_⟩
  refine ⟨ok_one hres rfl (okWide_bool_mk htb true), [.lit (.bool true)] ++ ds, [], before, ⟨before, [], ?_, hvv _, by simp, ?_, ?_⟩, ?_⟩
  · simpa [hspec] using ChangeShapes.trodAll_append (hargs _ (fun _ _ => rfl)) (hr 0 (fun _ => true) true)
  · intro b off hx
    rw [hb.frozen (p := ⟨b, off, none⟩) (hlt _ hx)]
    exact hz b off hx
  · intro ha; exact hn ha
  · intro x hx _; exact hx
end
end Go.Proofs.YtklepphkbbjbjaaDoor
namespace Go.Proofs.YtklepphkbbjbjaaDoor
set_option linter.unusedVariables false
set_option linter.unusedSimpArgs false
set_option maxRecDepth 20000
set_option maxHeartbeats 2000000
open Go
theorem wrap_i64 {x : Int} (h0 : -9223372036854775808 ≤ x) (h1 : x < 9223372036854775808) : IntKind.i64.wrap x = x := by
  simp -implicitDefEqProofs [IntKind.wrap, IntKind.bits, IntKind.signed]
  omega
theorem wrap_succ {i : Nat} (h : i < 1000000000000) : IntKind.i64.wrap ((i : Int) + 1) = ((i + 1 : Nat) : Int) := by rw [wrap_i64 (by omega) (by omega)]; rfl
theorem wrap_pred {i : Nat} (h : i < 1000000000000) : IntKind.i64.wrap (((i + 1 : Nat) : Int) - 1) = (i : Int) := by rw [wrap_i64 (by omega) (by omega)]; omega
@[simp] theorem nn1 (j : Nat) : ((0 : Int) ≤ (j : Int) + 1) = True := eq_true (by omega)
@[simp] theorem np1 (j : Nat) : ((0 : Int) < (j : Int) + 1) = True := eq_true (by omega)
@[simp] theorem ne1 (j : Nat) : (((j : Int) + 1) == 0) = false := beq_eq_false_iff_ne.2 (by omega)
@[simp] theorem nl1 (j : Nat) : ((j : Int) + 1 < 0) = False := eq_false (by omega)
theorem addS {x y : List UInt8} (h : x.length + y.length ≤ 4611686018427387904) : binStr .add x y = some (.str (x ++ y)) := by
  simp only [binStr, h, if_true]
@[simp] theorem wnP_undef (b : Bool) (o : Kt (Option DVal)) : @wnP .undef b o = some .undef := by simp [wnP, wantP, DVal.isB]
@[simp] theorem wnS_undef (b : Bool) (σ : Sto) (o : Kt (Option (DVal × Sto))) : @wnS .undef b σ o = some (.undef, σ) := by simp [wnS, wantS, DVal.isB]
@[simp] theorem wnS_gt (q : Prop) (c : Bool) (σ : Sto) (o : Kt (Option (DVal × Sto))) : @wnS (gv q (.bool c)) true σ o = iteQ (q ∧ c = true) o.f (some (.undef, σ)) := by
  by_cases h : q <;> cases c <;> simp [h, wnS, wantS, DVal.isB]
@[simp] theorem wnS_gf (q : Prop) (c : Bool) (σ : Sto) (o : Kt (Option (DVal × Sto))) : @wnS (gv q (.bool c)) false σ o = iteQ (q ∧ c = false) o.f (some (.undef, σ)) := by
  by_cases h : q <;> cases c <;> simp [h, wnS, wantS, DVal.isB]
section
variable {z : Zs} {sz : Nat} {es : List (List DVal)}
theorem slD_cases (z : Zs) (sz : Nat) (es : List (List DVal)) : (slD z sz es = .nils ∧ es = []) ∨ (slD z sz es = .empt ∧ es = []) ∨ slD z sz es = .slice false 0 sz es ∨ slD z sz es = .slice false 1 sz es := by
  cases z <;> cases es <;> simp [slD]
@[simp] theorem len_slD : lenSlSem [slD z sz es] = some (.int .i64 es.length) := by
  rcases slD_cases z sz es with ⟨h, rfl⟩ | ⟨h, rfl⟩ | h | h <;> rw [h] <;> rfl
@[simp] theorem idx_slD {k : IntKind} {i : Int} : idxSSem sz [slD z sz es, .int k i] = if 0 ≤ i then (es[i.toNat]?).map fun e => .elem e 0 else none := by
  rcases slD_cases z sz es with ⟨h, rfl⟩ | ⟨h, rfl⟩ | h | h <;> rw [h] <;> simp [idxSSem]
@[simp] theorem cells_slD : (slD z sz es).cells = [slD z sz es] := by
  rcases slD_cases z sz es with ⟨h, rfl⟩ | ⟨h, rfl⟩ | h | h <;> rw [h] <;> rfl
@[simp] theorem okCell_slD : (slD z sz es).okCell = true := by
  rcases slD_cases z sz es with ⟨h, rfl⟩ | ⟨h, rfl⟩ | h | h <;> rw [h] <;> rfl
@[simp] theorem okVal_slD : (slD z sz es).okVal = true := by
  rcases slD_cases z sz es with ⟨h, rfl⟩ | ⟨h, rfl⟩ | h | h <;> rw [h] <;> rfl
@[simp] theorem sealCell_slD : (slD z sz es).sealCell = some (slD z sz es) := by
  rcases slD_cases z sz es with ⟨h, rfl⟩ | ⟨h, rfl⟩ | h | h <;> rw [h] <;> rfl
@[simp] theorem sealVal_slD : (slD z sz es).sealVal = some (slD z sz es) := by
  rcases slD_cases z sz es with ⟨h, rfl⟩ | ⟨h, rfl⟩ | h | h <;> rw [h] <;> rfl
@[simp] theorem stale_slD : (slD z sz es).stale = slD z sz es := by
  rcases slD_cases z sz es with ⟨h, rfl⟩ | ⟨h, rfl⟩ | h | h <;> rw [h] <;> rfl
@[simp] theorem handBack_slD {σ : Sto} : (slD z sz es).handBack σ = some (slD z sz es) := by
  rcases slD_cases z sz es with ⟨h, rfl⟩ | ⟨h, rfl⟩ | h | h <;> rw [h] <;> simp [DVal.handBack, DVal.sealVal, DVal.sealCell]
@[simp] theorem import_slD {σ : Sto} : importVal σ (slD z sz es) = (slD z sz es, σ) := by
  rcases slD_cases z sz es with ⟨h, rfl⟩ | ⟨h, rfl⟩ | h | h <;> rw [h] <;> simp [importVal]
def Zs.part (z : Zs) (es : List (List DVal)) : Zs :=
  match es with
  | [] => match z with
    | .lit => .full
    | z => z
  | _ => .full
@[simp] theorem take_slD {k : IntKind} {j : Int} : slcVSem sz false true false [slD z sz es, .int k j] = if 0 ≤ j ∧ j ≤ es.length then some (slD (z.part es) sz (es.take j.toNat)) else none := by
  cases es with
  | nil =>
    by_cases hj : 0 ≤ j ∧ j ≤ 0
    · have : j = 0 := by omega
      subst this
      cases z <;> simp [slD, slcVSem, bounds, Zs.part]
    · have : ¬ (0 ≤ j ∧ j ≤ (([] : List (List DVal)).length : Int)) := by simpa using hj
      cases z <;> simp [slD, slcVSem, bounds, Zs.part, hj]
  | cons e es =>
    have h : ∃ own, own ≤ 1 ∧ slD z sz (e :: es) = .slice false own sz (e :: es) := by
      cases z
      · exact ⟨0, by decide, rfl⟩
      · exact ⟨0, by decide, rfl⟩
      · exact ⟨0, by decide, rfl⟩
      · exact ⟨1, by decide, rfl⟩
    obtain ⟨own, ho, h⟩ := h
    rw [h]
    simp only [slcVSem, bounds, if_true]
    by_cases hj : 0 ≤ j ∧ j ≤ (e :: es).length
    · rw [if_pos hj, if_pos hj]
      have h2 : (if own = 1 then 0 else own) = 0 := by split <;> omega
      simp [Zs.part, slD, h2]
    · rw [if_neg hj, if_neg hj]; rfl
end
abbrev strsD (z : Zs) (l : List (List UInt8)) : DVal := slD z 1 (l.map fun s => [DVal.str s])
theorem drop_get {α : Type} {l : List α} {i : Nat} {x : α} (h : l[i]? = some x) : l.drop i = x :: l.drop (i + 1) := by
  obtain ⟨hi, rfl⟩ := List.getElem?_eq_some_iff.1 h
  exact List.drop_eq_getElem_cons hi
theorem get_some {α : Type} {l : List α} {i : Nat} (h : i < l.length) : ∃ x, l[i]? = some x := ⟨l[i], List.getElem?_eq_getElem h⟩
theorem take_get {α : Type} {l : List α} {i : Nat} {x : α} (h : l[i]? = some x) : l.take (i + 1) = l.take i ++ [x] := by
  obtain ⟨hi, rfl⟩ := List.getElem?_eq_some_iff.1 h
  rw [List.take_add_one, List.getElem?_eq_getElem hi]; rfl
def apd (σ : Sto) (sz : Nat) (es : List (List DVal)) : DVal × Sto :=
  match es with
  | [] => (.nils, σ)
  | e :: es => (.slice false (σ.ntok + 3) sz (e :: es), { σ with ntok := σ.ntok + 1, fr := upd σ.fr σ.ntok ((es.length + 1) * sz) })
theorem app_apd {σ : Sto} {sz own : Nat} {es : List (List DVal)} {r : List DVal} (hl : es.length + 1 ≤ 4294967296) :
    app2Sem false sz (apd σ sz es).2 [(apd σ sz es).1, .slice false own sz [r]] = some ((apd σ sz (es ++ [r])).1, (apd σ sz (es ++ [r])).2) := by
  cases es with
  | nil => simp [apd, app2Sem, appSem, elemsM, elemsOf, DVal.szOk, maxAppend]
  | cons e es =>
    have h1 : es.length + 1 + 1 ≤ maxAppend := by simpa [maxAppend] using hl
    simp [apd, app2Sem, appSem, elemsM, elemsOf, DVal.szOk, h1, upd]
theorem elemsM_of {σ : Sto} {x : DVal} {y : Bool × List (List DVal)} (h : elemsOf x = some y) : elemsM σ x = some y := by
  cases x <;> first | exact h | simp [elemsOf] at h
def frD (sz : Nat) (es : List (List DVal)) : DVal :=
  match es with
  | [] => .nils
  | e :: es => .slice false 2 sz (e :: es)
@[simp] theorem stale_frD {sz : Nat} {es : List (List DVal)} : (frD sz es).stale = slD .nil sz es := by
  cases es <;> rfl
@[simp] theorem okVal_apd {σ : Sto} {sz : Nat} {es : List (List DVal)} : (apd σ sz es).1.okVal = true := by
  cases es <;> simp [apd, DVal.okVal, DVal.okCell]
@[simp] theorem okCell_apd {σ : Sto} {sz : Nat} {es : List (List DVal)} : (apd σ sz es).1.okCell = true := by
  cases es <;> simp [apd, DVal.okCell]
@[simp] theorem cells_apd {σ : Sto} {sz : Nat} {es : List (List DVal)} : (apd σ sz es).1.cells = [(apd σ sz es).1] := by
  cases es <;> simp [apd, DVal.cells]
@[simp] theorem seal_apd {σ : Sto} {sz : Nat} {es : List (List DVal)} : (apd σ sz es).1.sealCell = some (slD .nil sz es) := by
  cases es <;> simp [apd, DVal.sealCell, slD]
@[simp] theorem sealVal_apd {σ : Sto} {sz : Nat} {es : List (List DVal)} : (apd σ sz es).1.sealVal = some (slD .nil sz es) := by
  cases es <;> simp [apd, DVal.sealVal, DVal.sealCell, slD]
@[simp] theorem len_apd {σ : Sto} {sz : Nat} {es : List (List DVal)} : lenSlSem [(apd σ sz es).1] = some (.int .i64 es.length) := by
  cases es <;> simp [apd, lenSlSem, goI]
@[simp] theorem back_apd {σ : Sto} {sz : Nat} {es : List (List DVal)} : (apd σ sz es).1.handBack (apd σ sz es).2 = some (frD sz es) := by
  cases es with
  | nil => rfl
  | cons e es => simp [apd, DVal.handBack, upd, frD]
theorem idx_ms {k : IntKind} {id n i : Nat} {cap : Option Nat} (h : i < n) : idxSSem 1 [.mslice 1 id 0 n cap, .int k i] = some (.obj id i) := by
  have : (i : Int) < n := by omega
  simp [idxSSem, this]
def Sto.put (σ : Sto) (id : Nat) (d : DVal) : Sto := { σ with obj := upd σ.obj id d }
@[simp] theorem Sto.put_obj {σ : Sto} {id : Nat} {d : DVal} : (σ.put id d).obj id = d := by simp [Sto.put, upd]
theorem Sto.put_obj_ne {σ : Sto} {id j : Nat} {d : DVal} (h : j ≠ id) : (σ.put id d).obj j = σ.obj j := by simp [Sto.put, upd, h]
@[simp] theorem Sto.put_nobj {σ : Sto} {id : Nat} {d : DVal} : (σ.put id d).nobj = σ.nobj := rfl
@[simp] theorem Sto.put_ntok {σ : Sto} {id : Nat} {d : DVal} : (σ.put id d).ntok = σ.ntok := rfl
@[simp] theorem Sto.put_fr {σ : Sto} {id : Nat} {d : DVal} : (σ.put id d).fr = σ.fr := rfl
@[simp] theorem Sto.put_put {σ : Sto} {id : Nat} {d e : DVal} : (σ.put id d).put id e = σ.put id e := by simp [Sto.put, upd_upd]
theorem put_self {σ : Sto} {id : Nat} {d : DVal} (h : σ.obj id = d) : σ.put id d = σ := by
  cases σ
  simp only [Sto.put, Sto.mk.injEq, and_true, true_and]
  funext j
  simp only [upd]
  split
  · rename_i e; subst e; exact h.symm
  · rfl
def Sto.new (σ : Sto) (d : DVal) : Sto := { σ with nobj := σ.nobj + 1, obj := upd σ.obj σ.nobj d }
@[simp] theorem Sto.new_obj {σ : Sto} {d : DVal} : (σ.new d).obj σ.nobj = d := by simp [Sto.new, upd]
theorem Sto.new_obj_ne {σ : Sto} {j : Nat} {d : DVal} (h : j < σ.nobj) : (σ.new d).obj j = σ.obj j := by simp [Sto.new, upd]; intro e; omega
@[simp] theorem Sto.new_nobj {σ : Sto} {d : DVal} : (σ.new d).nobj = σ.nobj + 1 := rfl
@[simp] theorem Sto.new_ntok {σ : Sto} {d : DVal} : (σ.new d).ntok = σ.ntok := rfl
@[simp] theorem Sto.new_fr {σ : Sto} {d : DVal} : (σ.new d).fr = σ.fr := rfl
@[simp] theorem Sto.new_put {σ : Sto} {d e : DVal} : (σ.new d).put σ.nobj e = σ.new e := by simp [Sto.new, Sto.put, upd_upd]
theorem ld_obj {σ : Sto} {id off : Nat} {cs : List DVal} (sz : Option Nat) (ho : σ.obj id = .agg cs) (hid : id < σ.nobj) : ldOSem σ sz [.obj id off] = (readCells cs off sz).map fun v => (v, σ) := by
  simp only [ldOSem, hid, if_true, ho]
theorem st_obj {σ : Sto} {id off k : Nat} {cs : List DVal} {v : DVal} (ho : σ.obj id = .agg cs) (hid : id < σ.nobj) (hk : v.cells.length = k) (hv : v.cells.all DVal.okCell = true) :
    stOSem σ k [.obj id off, v] = (writeCells cs off v.cells).map fun cs' => (.undef, σ.put id (.agg cs')) := by
  simp only [stOSem, hid, hk, hv, and_self, if_true, ho]
  rfl
end Go.Proofs.YtklepphkbbjbjaaDoor
namespace Go.Proofs.YtklepphkbbjbjaaDoor
set_option linter.unusedVariables false
open Go
def parseD : List DVal → Option (List (Int × Nat))
  | [] => some []
  | .tup [.int .i64 k, .map i] :: r => (parseD r).map fun l => (k, i) :: l
  | _ => none
def isTup : DVal → Bool
  | .tup _ => true
  | _ => false
def isMapD : DVal → Bool
  | .tup es => es.all isTup
  | _ => false
def Sto.newAll (σ : Sto) : List DVal → Sto
  | [] => σ
  | d :: r => (σ.new d).newAll r
def reE : Nat → List (Int × Nat) → List DVal
  | _, [] => []
  | n, a :: r => .tup [.int .i64 a.1, .map n] :: reE (n + 1) r
def copyT (t : Nat) (σ : Sto) : Option (DVal × Sto) :=
  match σ.obj t with
  | .agg [.map nid, .map did, .int .i64 nx] =>
    match σ.obj nid, σ.obj did with
    | .tup ns, .tup ds => (parseD ds).bind fun kp =>
      if (t < σ.nobj ∧ nid < σ.nobj ∧ did < σ.nobj) ∧ ns.all isTup = true ∧ ∀ a ∈ kp, a.2 < σ.nobj ∧ isMapD (σ.obj a.2) = true then
        some (.obj (σ.nobj + kp.length + 2) 0, (((σ.newAll (kp.map fun a => σ.obj a.2)).new (.tup (reE σ.nobj kp))).new (.tup ns)).new (.agg [.map (σ.nobj + kp.length + 1), .map (σ.nobj + kp.length), .int .i64 nx]))
      else none
    | _, _ => none
  | _ => none
theorem parseD_eq : ∀ {ds : List DVal} {kp : List (Int × Nat)}, parseD ds = some kp → ds = kp.map fun a => .tup [.int .i64 a.1, .map a.2]
  | [], kp, h => by simp only [parseD, Option.some.injEq] at h; subst h; rfl
  | d :: r, kp, h => by
    unfold parseD at h
    split at h
    · rename_i e; cases e
    · rename_i k i r' e
      simp only [List.cons.injEq] at e
      obtain ⟨rfl, rfl⟩ := e
      simp only [Option.map_eq_some_iff] at h
      obtain ⟨l, h1, rfl⟩ := h
      rw [parseD_eq h1]
      rfl
    · cases h
theorem parseD_map : ∀ kp : List (Int × Nat), parseD (kp.map fun a => .tup [.int .i64 a.1, .map a.2]) = some kp
  | [] => rfl
  | a :: r => by
    simp only [List.map_cons, parseD, parseD_map r, Option.map_some]
theorem newAll_nobj : ∀ (ds : List DVal) (σ : Sto), (σ.newAll ds).nobj = σ.nobj + ds.length
  | [], _ => rfl
  | d :: r, σ => by
    show ((σ.new d).newAll r).nobj = _
    rw [newAll_nobj r]
    simp only [Sto.new, List.length_cons]
    omega
theorem newAll_old : ∀ (ds : List DVal) (σ : Sto) (i : Nat), i < σ.nobj → (σ.newAll ds).obj i = σ.obj i
  | [], _, _, _ => rfl
  | d :: r, σ, i, h => by
    show ((σ.new d).newAll r).obj i = _
    rw [newAll_old r _ i (by simp only [Sto.new]; omega)]
    simp only [Sto.new, upd]
    rw [if_neg (by omega)]
theorem newAll_at : ∀ (ds : List DVal) (σ : Sto) (i : Nat) (d : DVal), ds[i]? = some d → (σ.newAll ds).obj (σ.nobj + i) = d
  | [], _, _, _, h => by simp at h
  | e :: r, σ, 0, d, h => by
    simp only [List.getElem?_cons_zero, Option.some.injEq] at h
    subst h
    show ((σ.new e).newAll r).obj (σ.nobj + 0) = _
    rw [newAll_old r _ _ (by simp only [Sto.new]; omega)]
    simp [Sto.new, upd]
  | e :: r, σ, i + 1, d, h => by
    simp only [List.getElem?_cons_succ] at h
    have := newAll_at r (σ.new e) i d h
    show ((σ.new e).newAll r).obj (σ.nobj + (i + 1)) = _
    rw [← this]
    simp only [Sto.new]
    congr 1
    omega
theorem newAll_ora : ∀ (ds : List DVal) (σ : Sto) (o : Nat → Nat), Sto.newAll { σ with ora := o } ds = { σ.newAll ds with ora := o }
  | [], _, _ => rfl
  | d :: r, σ, o => newAll_ora r (σ.new d) o
theorem copyT_ora (t : Nat) (σ : Sto) (o : Nat → Nat) : copyT t { σ with ora := o } = (copyT t σ).map fun z => (z.1, { z.2 with ora := o }) := by
  unfold copyT
  dsimp only
  split
  · split
    · cases parseD _ with
      | none => rfl
      | some kp =>
        simp only [Option.bind_some]
        split
        · simp only [newAll_ora, Option.map_some, Sto.new]
        · rfl
    · rfl
  · rfl
theorem reE_get : ∀ (kp : List (Int × Nat)) (n i : Nat), (reE n kp)[i]? = kp[i]?.map fun a => .tup [.int .i64 a.1, .map (n + i)]
  | [], _, _ => rfl
  | a :: r, n, 0 => rfl
  | a :: r, n, i + 1 => by
    simp only [reE, List.getElem?_cons_succ]
    rw [reE_get r, Nat.add_assoc, Nat.add_comm 1 i]
end Go.Proofs.YtklepphkbbjbjaaDoor
namespace Go.Proofs.YtklepphkbbjbjaaDoor
set_option linter.unusedVariables false
open Go
section
variable {V V0 : Vw} {L : Nat → Nat × DVal} {σ : Sto} {w w0 : World}
def Vw.takeO (V : Vw) (p : Nat) : Vw := { V with tag := upd V.tag p (3, V.nobj), phi := upd V.phi V.nobj p, nobj := V.nobj + 1 }
theorem Inv.takeObj (h : Inv V L σ w) {p : Nat} (hp : V.B ≤ p) (hlt : p < w.heap.size) (ht : (V.tag p).1 = 0) {d : DVal} (hd : ObjRel V w d p) (hf : ∀ m c, d ≠ .func m c) :
    Stp V w (V.takeO p) w ∧ Inv (V.takeO p) L (σ.new d) w := by
  have hne : ∀ b, (V.tag b).1 ≠ 0 → upd V.tag p (3, V.nobj) b = V.tag b := fun b hb => by
    simp only [upd]; rw [if_neg (fun e => hb (by rw [e]; exact ht))]
  have hph : ∀ id, id < V.nobj → upd V.phi V.nobj p id = V.phi id := fun id hid => by
    simp only [upd]; rw [if_neg (by omega)]
  have hI : ExtI V w (V.takeO p) w := fun b n hi => ⟨by
    rcases hi with h1 | ⟨h1, h2⟩
    · exact .inl h1
    · refine .inr ⟨h1, ?_⟩
      have hb : (V.tag b).1 ≠ 0 := by rcases h2 with h2 | ⟨h2, -⟩ <;> omega
      show (upd V.tag p (3, V.nobj) b).1 = 1 ∨ ((upd V.tag p (3, V.nobj) b).1 = 4 ∧ n < V.fr (upd V.tag p (3, V.nobj) b).2)
      rw [hne b hb]
      exact h2, rfl⟩
  have hR : ExtS V w (V.takeO p) w := ⟨Nat.le_succ _, hph, Nat.le_refl _, fun _ _ => Nat.le_refl _, fun g hg _ => ⟨rfl, fun c el hb => ⟨c, hb, rfl⟩⟩, fun b c el hb => ⟨c, hb, rfl⟩⟩
  have hQ : Quiet V w (V.takeO p) w σ := fun m hm _ h3 _ => ⟨rfl, hne _ (by rw [h3]; simp)⟩
  refine ⟨⟨hI, hR⟩, ?_⟩
  have hns : V.nobj = σ.nobj := h.nobj
  have hold : ∀ id, id < V.nobj → (σ.new d).obj id = σ.obj id := fun id hid => Sto.new_obj_ne (by omega)
  exact { h with
    tag := fun b hb => by
      change (upd V.tag p (3, V.nobj) b).1 ≠ 0 at hb
      simp only [upd] at hb
      split at hb
      · rename_i e; subst e; exact ⟨hp, hlt⟩
      · exact h.tag b hb
    root := fun r hr => ⟨(hne (V.lam r) (by rw [(h.root r hr).1]; simp)).trans (h.root r hr).1, (h.root r hr).2.ext hI hR (h.hrt r hr) rfl⟩
    nobj := by
      show V.nobj + 1 = σ.nobj + 1
      omega
    obj := fun id hid => by
      change id < V.nobj + 1 at hid
      show ((σ.new d).obj id ≠ .undef → upd V.tag p (3, V.nobj) (upd V.phi V.nobj p id) = (3, id)) ∧ ObjRel (V.takeO p) w ((σ.new d).obj id) (upd V.phi V.nobj p id)
      by_cases e : id = V.nobj
      · subst e
        have e1 : (σ.new d).obj V.nobj = d := by rw [hns]; exact Sto.new_obj
        have e2 : upd V.phi V.nobj p V.nobj = p := by simp [upd]
        rw [e1, e2]
        exact ⟨fun _ => by simp [upd], hd.ext hI hR hf rfl⟩
      · have hid' : id < V.nobj := by omega
        rw [hold id hid', hph id hid']
        exact ⟨fun hu => (hne _ (by rw [(h.obj id hid').1 hu]; simp)).trans ((h.obj id hid').1 hu), .quiet h hid' hI hR hQ rfl⟩
    tag4 := fun b hb => by
      change (upd V.tag p (3, V.nobj) b).1 = 4 at hb
      have hb0 : (V.tag b).1 ≠ 0 := by
        intro e
        simp only [upd] at hb
        split at hb
        · simp at hb
        · omega
      show (upd V.tag p (3, V.nobj) b).2 < V.ntok
      rw [hne b hb0] at hb ⊢
      exact h.tag4 b hb
    tok := fun g hg => ⟨(hne (V.tb g) (by rw [(h.tok g hg).1]; simp)).trans (h.tok g hg).1, (h.tok g hg).2⟩
    hid := fun q m c hq he => by
      change q < V.nobj + 1 at hq
      by_cases e : q = V.nobj
      · subst e
        have e1 : (σ.new d).obj V.nobj = d := by rw [hns]; exact Sto.new_obj
        rw [e1] at he
        exact absurd he (hf m c)
      · have hq' : q < V.nobj := by omega
        rw [hold q hq'] at he
        have hm : m < V.nobj := by
          have := (h.obj q hq').2
          rw [he] at this
          exact this.func_at.1
        rw [hold m hm]
        exact h.hid q m c hq' he }
theorem takeO_tag {p b : Nat} (h : b ≠ p) : (V.takeO p).tag b = V.tag b := by simp [Vw.takeO, upd, h]
theorem takeO_tag_self {p : Nat} : (V.takeO p).tag p = (3, V.nobj) := by simp [Vw.takeO, upd]
theorem takeO_phi {p id : Nat} (h : id < V.nobj) : (V.takeO p).phi id = V.phi id := by simp [Vw.takeO, upd]; intro e; omega
theorem takeO_phi_self {p : Nat} : (V.takeO p).phi V.nobj = p := by simp [Vw.takeO, upd]
theorem Adv.takeO (h : Adv V0 w0 V w) {p : Nat} (hs : Stp V w (V.takeO p) w) (hp : w0.heap.size ≤ p) : Adv V0 w0 (V.takeO p) w :=
  h.more hs ⟨fun _ => Nat.le_refl _, fun _ _ _ => rfl⟩ rfl rfl (fun b hb h0 => by rw [takeO_tag (by omega)]; exact h0) (fun _ _ _ => rfl) (Nat.le_refl _) rfl rfl rfl
def Vw.takeAll (V : Vw) : List Nat → Vw
  | [] => V
  | p :: r => (V.takeO p).takeAll r
theorem takeAll_nobj : ∀ (ps : List Nat) (V : Vw), (V.takeAll ps).nobj = V.nobj + ps.length
  | [], _ => rfl
  | p :: r, V => by
    show ((V.takeO p).takeAll r).nobj = _
    rw [takeAll_nobj r]
    simp only [Vw.takeO, List.length_cons]
    omega
theorem takeAll_B : ∀ (ps : List Nat) (V : Vw), (V.takeAll ps).B = V.B
  | [], _ => rfl
  | p :: r, V => takeAll_B r (V.takeO p)
theorem takeAll_tag : ∀ (ps : List Nat) (V : Vw) (b : Nat), b ∉ ps → (V.takeAll ps).tag b = V.tag b
  | [], _, _, _ => rfl
  | p :: r, V, b, h => by
    simp only [List.mem_cons, not_or] at h
    show ((V.takeO p).takeAll r).tag b = _
    rw [takeAll_tag r _ b h.2, takeO_tag h.1]
theorem takeAll_phi : ∀ (ps : List Nat) (V : Vw) (id : Nat), id < V.nobj → (V.takeAll ps).phi id = V.phi id
  | [], _, _, _ => rfl
  | p :: r, V, id, h => by
    show ((V.takeO p).takeAll r).phi id = _
    rw [takeAll_phi r _ id (by simp only [Vw.takeO]; omega), takeO_phi h]
theorem takeAll_at : ∀ (ps : List Nat) (V : Vw) (i p : Nat), ps.Nodup → ps[i]? = some p → (V.takeAll ps).phi (V.nobj + i) = p ∧ (V.takeAll ps).tag p = (3, V.nobj + i)
  | [], _, _, _, _, h => by simp at h
  | q :: r, V, 0, p, hn, h => by
    simp only [List.getElem?_cons_zero, Option.some.injEq] at h
    subst h
    simp only [List.nodup_cons] at hn
    show ((V.takeO q).takeAll r).phi (V.nobj + 0) = q ∧ ((V.takeO q).takeAll r).tag q = _
    rw [takeAll_phi r _ _ (by simp only [Vw.takeO]; omega), takeAll_tag r _ _ hn.1]
    exact ⟨takeO_phi_self, takeO_tag_self⟩
  | q :: r, V, i + 1, p, hn, h => by
    simp only [List.getElem?_cons_succ] at h
    simp only [List.nodup_cons] at hn
    have := takeAll_at r (V.takeO q) i p hn.2 h
    have e : (V.takeO q).nobj + i = V.nobj + (i + 1) := by simp only [Vw.takeO]; omega
    rw [e] at this
    exact this
theorem Inv.takeAll : ∀ (l : List (DVal × Nat)) {V : Vw} {σ : Sto}, Inv V L σ w → Adv V0 w0 V w → (l.map Prod.snd).Nodup →
    (∀ x ∈ l, V.B ≤ x.2 ∧ w0.heap.size ≤ x.2 ∧ x.2 < w.heap.size ∧ (V.tag x.2).1 = 0 ∧ (∀ m c, x.1 ≠ .func m c) ∧ ∀ V', Stp V w V' w → ObjRel V' w x.1 x.2) →
    Stp V w (V.takeAll (l.map Prod.snd)) w ∧ Adv V0 w0 (V.takeAll (l.map Prod.snd)) w ∧ Inv (V.takeAll (l.map Prod.snd)) L (σ.newAll (l.map Prod.fst)) w
  | [], _, _, hi, ha, _, _ => ⟨.refl _ _, ha, hi⟩
  | x :: r, V, σ, hi, ha, hn, hx => by
    obtain ⟨h1, h2, h3, h4, h5, h6⟩ := hx x (by simp)
    simp only [List.map_cons, List.nodup_cons] at hn
    obtain ⟨s1, i1⟩ := hi.takeObj h1 h3 h4 (h6 V (.refl _ _)) h5
    have a1 := ha.takeO s1 h2
    obtain ⟨s2, a2, i2⟩ := Inv.takeAll r i1 a1 hn.2 (fun y hy => by
      obtain ⟨g1, g2, g3, g4, g5, g6⟩ := hx y (by simp [hy])
      exact ⟨g1, g2, g3, by rw [takeO_tag (fun e => hn.1 (by rw [← e]; exact List.mem_map.2 ⟨y, hy, rfl⟩))]; exact g4, g5, fun V' hs => g6 V' (s1.trans hs)⟩)
    exact ⟨s1.trans s2, a2, i2⟩
end
theorem perm_inv {α β : Type} (f : α → β) : ∀ (m : List β) (l : List α), (l.map f).Perm m → ∃ l', l.Perm l' ∧ l'.map f = m
  | [], l, h => by
    have := h.length_eq
    have : l = [] := List.eq_nil_of_length_eq_zero (by simpa using this)
    subst this
    exact ⟨[], .refl _, rfl⟩
  | y :: m, l, h => by
    have hy : y ∈ l.map f := h.symm.subset (by simp)
    obtain ⟨x, hx, rfl⟩ := List.mem_map.1 hy
    obtain ⟨s, t, rfl⟩ := List.append_of_mem hx
    have h1 : ((s ++ t).map f).Perm m := by
      refine List.Perm.cons_inv (a := f x) (.trans ?_ h)
      have := (List.perm_middle (a := x) (l₁ := s) (l₂ := t)).map f
      exact this.symm
    obtain ⟨l', h2, h3⟩ := perm_inv f m _ h1
    exact ⟨x :: l', List.perm_middle.trans (h2.cons x), by rw [List.map_cons, h3]⟩
end Go.Proofs.YtklepphkbbjbjaaDoor
namespace Go.Proofs.YtklepphkbbjbjaaDoor
set_option linter.unusedVariables false
set_option linter.unusedSimpArgs false
open Go
def Ans {α : Type} (o : Option α) (Q : α → Prop) : Prop := ∃ x, o = some x ∧ Q x
@[simp] theorem ans_some {α : Type} (x : α) (Q : α → Prop) : Ans (some x) Q = Q x := by simp [Ans]
@[simp] theorem ans_none {α : Type} (Q : α → Prop) : Ans none Q = False := by simp [Ans]
@[simp] theorem ans_ite {α : Type} (p : Prop) (a b : Option α) (Q : α → Prop) : Ans (iteQ p a b) Q = ((p → Ans a Q) ∧ (¬ p → Ans b Q)) := by
  by_cases h : p <;> simp [h]
theorem Ans.mono {α : Type} {o : Option α} {Q R : α → Prop} (h : Ans o Q) (hq : ∀ x, Q x → R x) : Ans o R := by
  obtain ⟨x, h1, h2⟩ := h
  exact ⟨x, h1, hq x h2⟩
def stepR (l : Nat) (f : List DVal → Sto → Option Out) (m : Nat) (R : Out → Prop) : Out → Prop
  | .next i vs σ => if i = l then Ans (iterJ l f m vs σ) R else R (.next i vs σ)
  | o => R o
@[simp] theorem stepR_done (l : Nat) (f : List DVal → Sto → Option Out) (m : Nat) (R : Out → Prop) (v : DVal) (σ : Sto) : stepR l f m R (.done v σ) = R (.done v σ) := rfl
@[simp] theorem stepR_next (l i : Nat) (f : List DVal → Sto → Option Out) (m : Nat) (R : Out → Prop) (vs : List DVal) (σ : Sto) : stepR l f m R (.next i vs σ) = if i = l then Ans (iterJ l f m vs σ) R else R (.next i vs σ) := rfl
def joinR (l : Nat) (k : List DVal → Sto → Option Out) (R : Out → Prop) : Out → Prop
  | .next i vs σ => if i = l then Ans (k vs σ) R else R (.next i vs σ)
  | o => R o
@[simp] theorem joinR_done (l : Nat) (k : List DVal → Sto → Option Out) (R : Out → Prop) (v : DVal) (σ : Sto) : joinR l k R (.done v σ) = R (.done v σ) := rfl
@[simp] theorem joinR_next (l i : Nat) (k : List DVal → Sto → Option Out) (R : Out → Prop) (vs : List DVal) (σ : Sto) : joinR l k R (.next i vs σ) = if i = l then Ans (k vs σ) R else R (.next i vs σ) := rfl
def backR (Q : DVal → Prop) : Out → Prop
  | .done v σ => Ans (v.handBack σ) Q
  | _ => False
@[simp] theorem backR_done (Q : DVal → Prop) (v : DVal) (σ : Sto) : backR Q (.done v σ) = Ans (v.handBack σ) Q := rfl
@[simp] theorem backR_next (Q : DVal → Prop) (i : Nat) (vs : List DVal) (σ : Sto) : backR Q (.next i vs σ) = False := rfl
def backI (Q : DVal → Sto → Prop) : Out → Prop
  | .done v σ => Q v σ
  | _ => False
@[simp] theorem backI_done (Q : DVal → Sto → Prop) (v : DVal) (σ : Sto) : backI Q (.done v σ) = Q v σ := rfl
@[simp] theorem backI_next (Q : DVal → Sto → Prop) (i : Nat) (vs : List DVal) (σ : Sto) : backI Q (.next i vs σ) = False := rfl
def isB (Q : Bool → Prop) (d : DVal) : Prop := ∃ b, d = .bool b ∧ Q b
@[simp] theorem isB_bool (Q : Bool → Prop) (b : Bool) : isB Q (.bool b) = Q b := by simp [isB]
def isI (Q : Int → Prop) (d : DVal) : Prop := ∃ i, d = .int .i64 i ∧ Q i
@[simp] theorem isI_int (Q : Int → Prop) (i : Int) : isI Q (.int .i64 i) = Q i := by simp [isI]
theorem Ans.bool {o : Option DVal} {Q : Bool → Prop} (h : Ans o (isB Q)) : ∃ b, o = some (.bool b) ∧ Q b := by
  obtain ⟨d, h1, b, rfl, h2⟩ := h
  exact ⟨b, h1, h2⟩
theorem Ans.int {o : Option DVal} {Q : Int → Prop} (h : Ans o (isI Q)) : ∃ i, o = some (.int .i64 i) ∧ Q i := by
  obtain ⟨d, h1, i, rfl, h2⟩ := h
  exact ⟨i, h1, h2⟩
def doneB (Q : Bool → Prop) : Out → Prop
  | .done (.bool b) _ => Q b
  | _ => False
@[simp] theorem doneB_bool (Q : Bool → Prop) (b : Bool) (σ : Sto) : doneB Q (.done (.bool b) σ) = Q b := rfl
def doneI (Q : Int → Prop) : Out → Prop
  | .done (.int .i64 i) _ => Q i
  | _ => False
@[simp] theorem doneI_int (Q : Int → Prop) (i : Int) (σ : Sto) : doneI Q (.done (.int .i64 i) σ) = Q i := rfl
theorem Ans.doneB {o : Option Out} {Q : Bool → Prop} (h : Ans o (doneB Q)) : ∃ b σ, o = some (.done (.bool b) σ) ∧ Q b := by
  obtain ⟨x, rfl, h2⟩ := h
  cases x with
  | done v σ => cases v <;> simp only [Go.Proofs.YtklepphkbbjbjaaDoor.doneB] at h2; exact ⟨_, σ, rfl, h2⟩
  | next i vs σ => exact h2.elim
theorem Ans.doneI {o : Option Out} {Q : Int → Prop} (h : Ans o (doneI Q)) : ∃ i σ, o = some (.done (.int .i64 i) σ) ∧ Q i := by
  obtain ⟨x, rfl, h2⟩ := h
  cases x with
  | done v σ =>
    cases v with
    | int k i =>
      cases k <;> first | exact ⟨_, σ, rfl, h2⟩ | exact h2.elim
    | _ => exact h2.elim
  | next i vs σ => exact h2.elim
def any {α : Type} : α → Prop := fun _ => True
@[simp] theorem any_eq {α : Type} (x : α) : any x = True := rfl
theorem rows_of {α : Type} {f : α → List DVal} : ∀ {es : List (List DVal)}, (∀ r ∈ es, ∃ x, r = f x) → ∃ l : List α, es = l.map f
  | [], _ => ⟨[], rfl⟩
  | e :: es, h => by
    obtain ⟨x, rfl⟩ := h e (by simp)
    obtain ⟨l, rfl⟩ := rows_of (es := es) fun r hr => h r (by simp [hr])
    exact ⟨x :: l, rfl⟩
end Go.Proofs.YtklepphkbbjbjaaDoor
namespace Go.Proofs.YtklepphkbbjbjaaDoor
set_option linter.unusedVariables false
set_option linter.unusedSimpArgs false
open Go
def Own (σ : Sto) (sz : Nat) (v : DVal) (l : List (List DVal)) : Prop :=
  (v = .nils ∧ l = []) ∨ v = .slice false 1 sz l ∨ ∃ t, v = .slice false (t + 3) sz l ∧ σ.fr t = l.length * sz
theorem own_nils (σ : Sto) (sz : Nat) : Own σ sz .nils [] := .inl ⟨rfl, rfl⟩
theorem own_lit (σ : Sto) (sz : Nat) (l : List (List DVal)) : Own σ sz (.slice false 1 sz l) l := .inr (.inl rfl)
theorem own_app {σ : Sto} {sz : Nat} {v x : DVal} {l new : List (List DVal)} (h : Own σ sz v l) (hx : elemsOf x = some (false, new)) (hs : x.szOk sz = true) (hl : l.length + new.length ≤ 4294967296) :
    ∃ v' σ', app2Sem false sz σ [v, x] = some (v', σ') ∧ Own σ' sz v' (l ++ new) := by
  have h0 : (false && !false || !x.szOk sz) = false := by rw [hs]; rfl
  replace hx : ∀ τ, elemsM τ x = some (false, new) := fun τ => elemsM_of hx
  rcases h with ⟨rfl, rfl⟩ | rfl | ⟨t, rfl, ht⟩
  · cases new with
    | nil => exact ⟨.nils, σ, by simp [app2Sem, appSem, hx, hs], own_nils σ sz⟩
    | cons e es =>
      have hl' : es.length + 1 ≤ maxAppend := by simpa [maxAppend] using hl
      refine ⟨.slice false (σ.ntok + 3) sz (e :: es), { σ with ntok := σ.ntok + 1, fr := upd σ.fr σ.ntok ((es.length + 1) * sz) }, by simp [app2Sem, appSem, hx, hs, hl'], .inr (.inr ⟨σ.ntok, by simp, by simp [upd]⟩)⟩
  · cases new with
    | nil =>
      have hl' : l.length ≤ maxAppend := by simpa [maxAppend] using hl
      exact ⟨.slice false 1 sz l, σ, by simp [app2Sem, appSem, hx, hs, hl'], by rw [List.append_nil]; exact own_lit σ sz l⟩
    | cons e es =>
      have hl' : l.length + (es.length + 1) ≤ maxAppend := by simpa [maxAppend] using hl
      refine ⟨.slice false (σ.ntok + 3) sz (l ++ e :: es), { σ with ntok := σ.ntok + 1, fr := upd σ.fr σ.ntok ((l.length + (es.length + 1)) * sz) }, by simp [app2Sem, appSem, hx, hs, hl'], .inr (.inr ⟨σ.ntok, rfl, by simp [upd]⟩)⟩
  · cases new with
    | nil =>
      have hl' : l.length ≤ maxAppend := by simpa [maxAppend] using hl
      exact ⟨.slice false (t + 3) sz l, σ, by simp [app2Sem, appSem, hx, hs, hl'], by rw [List.append_nil]; exact .inr (.inr ⟨t, rfl, ht⟩)⟩
    | cons e es =>
      have hl' : l.length + (es.length + 1) ≤ maxAppend := by simpa [maxAppend] using hl
      refine ⟨.slice false (t + 3) sz (l ++ e :: es), { σ with fr := upd σ.fr t ((l.length + (es.length + 1)) * sz) }, ?_, .inr (.inr ⟨t, rfl, by simp [upd]⟩)⟩
      simp [app2Sem, appSem, hx, hs, hl', ht]
theorem own_one {σ : Sto} {sz own : Nat} {v : DVal} {l : List (List DVal)} {r : List DVal} (h : Own σ sz v l) (hl : l.length + 1 ≤ 4294967296) :
    ∃ v' σ', app2Sem false sz σ [v, .slice false own sz [r]] = some (v', σ') ∧ Own σ' sz v' (l ++ [r]) :=
  own_app h rfl (by simp [DVal.szOk]) (by simpa using hl)
theorem elems_slD {z : Zs} {sz : Nat} {l : List (List DVal)} : elemsOf (slD z sz l) = some (false, l) := by
  cases z <;> cases l <;> rfl
theorem szOk_slD {z : Zs} {sz : Nat} {l : List (List DVal)} : (slD z sz l).szOk sz = true := by
  cases z <;> cases l <;> simp [slD, DVal.szOk]
theorem own_seal {σ : Sto} {sz : Nat} {v : DVal} {l : List (List DVal)} (h : Own σ sz v l) : ∃ z, v.sealVal = some (slD z sz l) := by
  rcases h with ⟨rfl, rfl⟩ | rfl | ⟨t, rfl, ht⟩
  · exact ⟨.nil, rfl⟩
  · exact ⟨.lit, rfl⟩
  · refine ⟨.full, ?_⟩
    simp [DVal.sealVal, DVal.sealCell, slD]
theorem own_len {σ : Sto} {sz : Nat} {v : DVal} {l : List (List DVal)} (h : Own σ sz v l) : lenSlSem [v] = some (.int .i64 l.length) := by
  rcases h with ⟨rfl, rfl⟩ | rfl | ⟨t, rfl, ht⟩ <;> rfl
theorem own_okVal {σ : Sto} {sz : Nat} {v : DVal} {l : List (List DVal)} (h : Own σ sz v l) : v.okVal = true := by
  rcases h with ⟨rfl, rfl⟩ | rfl | ⟨t, rfl, ht⟩
  · rfl
  · rfl
  · simp [DVal.okVal, DVal.okCell]
theorem own_okCell {σ : Sto} {sz : Nat} {v : DVal} {l : List (List DVal)} (h : Own σ sz v l) : v.okCell = true := by
  rcases h with ⟨rfl, rfl⟩ | rfl | ⟨t, rfl, ht⟩
  · rfl
  · rfl
  · simp [DVal.okCell]
theorem own_cells {σ : Sto} {sz : Nat} {v : DVal} {l : List (List DVal)} (h : Own σ sz v l) : v.cells = [v] := by
  rcases h with ⟨rfl, rfl⟩ | rfl | ⟨t, rfl, ht⟩ <;> rfl
def Fresh (sz : Nat) (v : DVal) (l : List (List DVal)) : Prop := (v = .nils ∧ l = []) ∨ v = .slice false 1 sz l ∨ v = .slice false 2 sz l
theorem own_back {σ : Sto} {sz : Nat} {v : DVal} {l : List (List DVal)} (h : Own σ sz v l) : ∃ u, v.handBack σ = some u ∧ Fresh sz u l := by
  rcases h with ⟨rfl, rfl⟩ | rfl | ⟨t, rfl, ht⟩
  · exact ⟨.nils, rfl, .inl ⟨rfl, rfl⟩⟩
  · exact ⟨_, rfl, .inr (.inl rfl)⟩
  · exact ⟨.slice false 2 sz l, by simp [DVal.handBack, ht], .inr (.inr rfl)⟩
theorem fresh_stale {sz : Nat} {u : DVal} {l : List (List DVal)} (h : Fresh sz u l) : ∃ z, u.stale = slD z sz l := by
  rcases h with ⟨rfl, rfl⟩ | rfl | rfl
  · exact ⟨.nil, rfl⟩
  · exact ⟨.lit, rfl⟩
  · exact ⟨.full, rfl⟩
end Go.Proofs.YtklepphkbbjbjaaDoor
namespace Go.Proofs.YtklepphkbbjbjaaDoor
set_option linter.unusedVariables false
open Go
theorem updO_eq {α : Type} (f : Nat → α) (a : Nat) (v : α) : upd f a v a = v := by simp [upd]
theorem updO_ne {α : Type} (f : Nat → α) {a b : Nat} (v : α) (h : b ≠ a) : upd f a v b = f b := by simp [upd, h]
theorem rng_at {τ : Sto} {m : Nat} {es : List DVal} (h : m < τ.nobj) (hm : τ.obj m = .tup es) (hn : ∀ s r, es ≠ .str s :: r) :
    rngMSem τ [.map m] = some (.obj τ.nobj 0, { τ with nobj := τ.nobj + 1, obj := upd (upd τ.obj m (.iface τ.nobj .undef)) τ.nobj (.func m [.undef, .tup es, .tup es]) }) := by
  simp only [rngMSem, h, if_true]
  rw [hm]
  split
  · rename_i e
    simp only [DVal.tup.injEq] at e
    exact absurd e (hn _ _)
  · rename_i e
    simp only [DVal.tup.injEq] at e
    subst e
    rfl
  · rename_i e
    exact absurd rfl (e _)
theorem rng_nil {τ : Sto} : rngMSem τ [.nilm] = some (.obj τ.nobj 0, { τ with nobj := τ.nobj + 1, obj := upd τ.obj τ.nobj .nilm }) := rfl
theorem next_nil {τ : Sto} {iid m : Nat} {cur : DVal} {all : List DVal} (h : iid < τ.nobj) (hit : τ.obj iid = .func m [cur, .tup [], .tup all]) : nextMSem τ [.obj iid 0] = some (.tup [.bool false], { τ with obj := upd (upd τ.obj iid .undef) m (.tup all) }) := by
  simp only [nextMSem, h, if_true, hit]
theorem next_cons {τ : Sto} {iid m : Nat} {cur : DVal} {rest all : List DVal} {k v : DVal} (h : iid < τ.nobj) (hit : τ.obj iid = .func m [cur, .tup rest, .tup all]) (hj : rest[τ.ora 0 % rest.length]? = some (.tup [k, v])) :
    nextMSem τ [.obj iid 0] = some (.tup [.bool true, k, v], { τ with obj := upd τ.obj iid (.func m [.tup [k, v], .tup (rest.eraseIdx (τ.ora 0 % rest.length)), .tup all]), ora := fun i => τ.ora (i + 1) }) := by
  unfold nextMSem
  simp only [h, if_true, hit]
  cases rest with
  | nil => simp at hj
  | cons r rs => simp only [hj]
theorem ent_at {τ : Sto} {iid m : Nat} {r1 r2 k v : DVal} (h : iid < τ.nobj) (hit : τ.obj iid = .func m [.tup [k, v], r1, r2]) : entMSem τ [.obj iid 0] = some (.tup [k, v], τ) := by
  simp only [entMSem, h, if_true, hit]
theorem next_nilm {τ : Sto} {iid : Nat} (h : iid < τ.nobj) (hit : τ.obj iid = .nilm) : nextMSem τ [.obj iid 0] = some (.tup [.bool false], { τ with obj := upd τ.obj iid .undef }) := by
  simp only [nextMSem, h, if_true, hit]
theorem rdet_eq {σ : Sto} {g : (Nat → Nat) → Option (DVal × Sto)} {z : DVal × Sto} (h0 : g (fun _ => 0) = some z) (h : ∀ o, ∃ y, g o = some y ∧ likeR y z) : rdet σ g = some (z.1, { z.2 with ora := σ.ora }) := by
  unfold rdet
  rw [if_pos fun o => by obtain ⟨y, h1, h2⟩ := h o; exact ⟨y, z, h1, h0, h2⟩, h0]
  rfl
end Go.Proofs.YtklepphkbbjbjaaDoor
namespace Go.Proofs.YtklepphkbbjbjaaDoor
set_option linter.unusedVariables false
open Go
def firstAt {α : Type} (p : α → Bool) : List α → Nat → Option (Nat × α)
  | [], _ => none
  | x :: l, i => if p x then some (i, x) else firstAt p l (i + 1)
theorem firstAt_some {α : Type} {p : α → Bool} : ∀ {l : List α} {i j : Nat} {x : α}, firstAt p l i = some (j, x) → ∃ m, j = i + m ∧ l[m]? = some x ∧ p x = true ∧ ∀ k y, k < m → l[k]? = some y → p y = false
  | [], _, _, _, h => by simp [firstAt] at h
  | y :: l, i, j, x, h => by
    rw [firstAt] at h
    split at h
    · rename_i hp
      simp only [Option.some.injEq, Prod.mk.injEq] at h
      obtain ⟨rfl, rfl⟩ := h
      exact ⟨0, by omega, rfl, hp, fun k y hk => by omega⟩
    · rename_i hp
      obtain ⟨m, rfl, h2, h3, h4⟩ := firstAt_some h
      refine ⟨m + 1, by omega, by simpa using h2, h3, fun k z hk hz => ?_⟩
      cases k with
      | zero => simp only [List.getElem?_cons_zero, Option.some.injEq] at hz; subst hz; simpa using hp
      | succ k => exact h4 k z (by omega) (by simpa using hz)
theorem firstAt_none {α : Type} {p : α → Bool} : ∀ {l : List α} {i : Nat}, firstAt p l i = none → ∀ x ∈ l, p x = false
  | [], _, _, x, hx => by simp at hx
  | y :: l, i, h, x, hx => by
    rw [firstAt] at h
    split at h
    · cases h
    · rename_i hp
      rcases List.mem_cons.1 hx with rfl | hx
      · simpa using hp
      · exact firstAt_none h x hx
theorem firstAt_no {α : Type} {p : α → Bool} : ∀ {l : List α} {i : Nat}, (∀ x ∈ l, p x = false) → firstAt p l i = none
  | [], _, _ => rfl
  | y :: l, i, h => by
    rw [firstAt, if_neg (by simp [h y])]
    exact firstAt_no fun x hx => h x (by simp [hx])
abbrev entI {α : Type} (key : α → Int) (val : α → DVal) (x : α) : DVal := .tup [.int .i64 (key x), val x]
abbrev entS {α : Type} (key : α → (List UInt8)) (val : α → DVal) (x : α) : DVal := .tup [.str (key x), val x]
theorem key_I (k : Int) : keyOk false [.i .i64] (.int .i64 k) = true := by simp [keyOk, DVal.isAgg, DVal.plain, DVal.plainCell, cellsEq, cellEq, DVal.cells]
theorem key_S (k : (List UInt8)) : keyOk false [.s] (.str k) = true := by simp [keyOk, DVal.isAgg, DVal.plain, DVal.plainCell, cellsEq, cellEq, DVal.cells]
theorem find_I {α : Type} (key : α → Int) (val : α → DVal) (k : Int) : ∀ (l : List α) (i : Nat), findE false [.i .i64] (.int .i64 k) (l.map (entI key val)) i = some ((firstAt (fun x => k == key x) l i).map fun r => (r.1, val r.2))
  | [], i => rfl
  | e :: l, i => by
    show (if DVal.isAgg (.int .i64 (key e)) == false then (match cellsEq [.i .i64] [.int .i64 k] [.int .i64 (key e)] with
      | some true => some (some (i, val e))
      | some false => findE false [.i .i64] (.int .i64 k) (l.map (entI key val)) (i + 1)
      | none => none) else none) = _
    rw [if_pos (show ((DVal.isAgg (.int .i64 (key e))) == false) = true from rfl), firstAt]
    by_cases h : k = key e
    · have : cellsEq [.i .i64] [.int .i64 k] [.int .i64 (key e)] = some true := by simp [cellsEq, cellEq, h]
      rw [this, if_pos (by simpa using h)]
      rfl
    · have : cellsEq [.i .i64] [.int .i64 k] [.int .i64 (key e)] = some false := by simp [cellsEq, cellEq, h]
      rw [this, if_neg (by simpa using h)]
      exact find_I key val k l (i + 1)
theorem find_S {α : Type} (key : α → (List UInt8)) (val : α → DVal) (k : (List UInt8)) : ∀ (l : List α) (i : Nat), findE false [.s] (.str k) (l.map (entS key val)) i = some ((firstAt (fun x => k == key x) l i).map fun r => (r.1, val r.2))
  | [], i => rfl
  | e :: l, i => by
    show (if DVal.isAgg (.str (key e)) == false then (match cellsEq [.s] [.str k] [.str (key e)] with
      | some true => some (some (i, val e))
      | some false => findE false [.s] (.str k) (l.map (entS key val)) (i + 1)
      | none => none) else none) = _
    rw [if_pos (show ((DVal.isAgg (.str (key e))) == false) = true from rfl), firstAt]
    by_cases h : k = key e
    · have : cellsEq [.s] [.str k] [.str (key e)] = some true := by simp [cellsEq, cellEq, h]
      rw [this, if_pos (by simpa using h)]
      rfl
    · have : cellsEq [.s] [.str k] [.str (key e)] = some false := by simp [cellsEq, cellEq, h]
      rw [this, if_neg (by simpa using h)]
      exact find_S key val k l (i + 1)
theorem findK_I {α : Type} (key : α → Int) (val : α → DVal) (k : Int) (l : List α) : findK false [.i .i64] (.int .i64 k) (l.map (entI key val)) = some ((firstAt (fun x => k == key x) l 0).map fun r => (r.1, val r.2)) := by
  have : (l.map (entI key val)).all (entOk false [.i .i64]) = true := by
    rw [List.all_eq_true]
    intro e he
    obtain ⟨x, -, rfl⟩ := List.mem_map.1 he
    exact key_I (key x)
  rw [findK, if_pos this, find_I]
theorem findK_S {α : Type} (key : α → (List UInt8)) (val : α → DVal) (k : (List UInt8)) (l : List α) : findK false [.s] (.str k) (l.map (entS key val)) = some ((firstAt (fun x => k == key x) l 0).map fun r => (r.1, val r.2)) := by
  have : (l.map (entS key val)).all (entOk false [.s]) = true := by
    rw [List.all_eq_true]
    intro e he
    obtain ⟨x, -, rfl⟩ := List.mem_map.1 he
    exact key_S (key x)
  rw [findK, if_pos this, find_S]
section
variable {α : Type} {σ : Sto} {id : Nat} {l : List α} {val : α → DVal} {zero : DVal} {ok : Bool}
theorem look_I {key : α → Int} (h : id < σ.nobj) (hm : σ.obj id = .tup (l.map (entI key val))) (k : Int) : lookSem false [.i .i64] zero ok σ [.map id, .int .i64 k] = some (lookRes zero ok ((firstAt (fun x => k == key x) l 0).map fun r => (r.1, val r.2)), σ) := by
  simp only [lookSem, h, key_I, and_self, if_true, hm, findK_I, Option.map_some]
theorem look_S {key : α → (List UInt8)} (h : id < σ.nobj) (hm : σ.obj id = .tup (l.map (entS key val))) (k : (List UInt8)) : lookSem false [.s] zero ok σ [.map id, .str k] = some (lookRes zero ok ((firstAt (fun x => k == key x) l 0).map fun r => (r.1, val r.2)), σ) := by
  simp only [lookSem, h, key_S, and_self, if_true, hm, findK_S, Option.map_some]
theorem upd_I {key : α → Int} (h : id < σ.nobj) (hm : σ.obj id = .tup (l.map (entI key val))) (k : Int) {v : DVal} (hv : v.okVal = true) : mupdSem false [.i .i64] σ [.map id, .int .i64 k, v] = some (.undef, σ.put id (.tup (match firstAt (fun x => k == key x) l 0 with
    | some (i, _) => (l.map (entI key val)).set i (.tup [.int .i64 k, v])
    | none => l.map (entI key val) ++ [.tup [.int .i64 k, v]]))) := by
  simp only [mupdSem, h, key_I, and_self, if_true, hm, findK_I, hv]
  cases firstAt (fun x => k == key x) l 0 <;> rfl
theorem upd_S {key : α → (List UInt8)} (h : id < σ.nobj) (hm : σ.obj id = .tup (l.map (entS key val))) (k : (List UInt8)) {v : DVal} (hv : v.okVal = true) : mupdSem false [.s] σ [.map id, .str k, v] = some (.undef, σ.put id (.tup (match firstAt (fun x => k == key x) l 0 with
    | some (i, _) => (l.map (entS key val)).set i (.tup [.str k, v])
    | none => l.map (entS key val) ++ [.tup [.str k, v]]))) := by
  simp only [mupdSem, h, key_S, and_self, if_true, hm, findK_S, hv]
  cases firstAt (fun x => k == key x) l 0 <;> rfl
theorem del_I {key : α → Int} (h : id < σ.nobj) (hm : σ.obj id = .tup (l.map (entI key val))) (k : Int) : mdelSem false [.i .i64] σ [.map id, .int .i64 k] = some (.tup [], match firstAt (fun x => k == key x) l 0 with
    | some (i, _) => σ.put id (.tup ((l.eraseIdx i).map (entI key val)))
    | none => σ) := by
  simp only [mdelSem, h, key_I, and_self, if_true, hm, findK_I]
  cases firstAt (fun x => k == key x) l 0 with
  | none => rfl
  | some r => simp only [Option.map_some, Sto.put, ChangeMaps.map_eraseIdx]
theorem del_S {key : α → (List UInt8)} (h : id < σ.nobj) (hm : σ.obj id = .tup (l.map (entS key val))) (k : (List UInt8)) : mdelSem false [.s] σ [.map id, .str k] = some (.tup [], match firstAt (fun x => k == key x) l 0 with
    | some (i, _) => σ.put id (.tup ((l.eraseIdx i).map (entS key val)))
    | none => σ) := by
  simp only [mdelSem, h, key_S, and_self, if_true, hm, findK_S]
  cases firstAt (fun x => k == key x) l 0 with
  | none => rfl
  | some r => simp only [Option.map_some, Sto.put, ChangeMaps.map_eraseIdx]
theorem len_I {key : α → Int} (h : id < σ.nobj) (hm : σ.obj id = .tup (l.map (entI key val))) : lenMSem σ [.map id] = some (.int .i64 l.length, σ) := by
  simp only [lenMSem, h, if_true, hm]
  cases l with
  | nil => rfl
  | cons e l => simp [entI, goI]
theorem len_S {key : α → (List UInt8)} (h : id < σ.nobj) (hm : σ.obj id = .tup (l.map (entS key val))) : lenMSem σ [.map id] = some (.int .i64 l.length, σ) := by
  simp only [lenMSem, h, if_true, hm]
  cases l with
  | nil => rfl
  | cons e l => simp [entS, goI]
end
end Go.Proofs.YtklepphkbbjbjaaDoor
namespace Go.Proofs.YtklepphkbbjbjaaDoor
set_option linter.unusedVariables false
set_option linter.unusedSimpArgs false
open Go
abbrev Bs := List UInt8
structure Sl (α : Type) where
  z : Zs
  l : List α
structure SetV where
  w : Nat → Nat
  lt : ∀ i, w i < 18446744073709551616
def SetV.row (s : SetV) : List DVal := [.int .u64 (s.w 0), .int .u64 (s.w 1), .int .u64 (s.w 2), .int .u64 (s.w 3)]
structure LvV where
  s : Int
  c : Nat
  lt : c < 18446744073709551616
def LvV.row (l : LvV) : List DVal := [.int .i64 l.s, .int .u64 l.c]
structure CtxV where
  user : Int
  role : Int
  type : Int
  lo : LvV
  hi : LvV
def CtxV.row (c : CtxV) : List DVal := [.int .i64 c.user, .int .i64 c.role, .int .i64 c.type] ++ (c.lo.row ++ c.hi.row)
structure ClassV where
  name : Bs
  perms : Sl Bs
def strs (s : Sl Bs) : DVal := slD s.z 1 (s.l.map fun x => [DVal.str x])
def ClassV.row (c : ClassV) : List DVal := [.str c.name, strs c.perms]
structure TypeV where
  name : Bs
  aliases : Sl Bs
  perm : Bool
def TypeV.row (t : TypeV) : List DVal := [.str t.name, strs t.aliases, .bool t.perm]
structure AttrV where
  name : Bs
  types : SetV
def AttrV.row (a : AttrV) : List DVal := .str a.name :: a.types.row
structure RoleV where
  name : Bs
  types : SetV
  next : SetV
def RoleV.row (r : RoleV) : List DVal := .str r.name :: (r.types.row ++ r.next.row)
structure UserV where
  name : Bs
  roles : SetV
  dflt : LvV
  lo : LvV
  hi : LvV
def UserV.row (u : UserV) : List DVal := .str u.name :: (u.roles.row ++ (u.dflt.row ++ (u.lo.row ++ u.hi.row)))
structure BoolV where
  name : Bs
  value : Bool
def BoolV.row (b : BoolV) : List DVal := [.str b.name, .bool b.value]
structure RuleV where
  kind : Int
  source : SetV
  target : SetV
  self : Bool
  cls : Int
  perms : Nat
  cond : Int
  lt : perms < 4294967296
def RuleV.row (r : RuleV) : List DVal := .int .i64 r.kind :: (r.source.row ++ (r.target.row ++ [.bool r.self, .int .i64 r.cls, .int .u32 r.perms, .int .i64 r.cond]))
structure TransV where
  kind : Int
  source : SetV
  target : SetV
  cls : Int
  name : Bs
  result : Int
  cond : Int
def TransV.row (r : TransV) : List DVal := .int .i64 r.kind :: (r.source.row ++ (r.target.row ++ [.int .i64 r.cls, .str r.name, .int .i64 r.result, .int .i64 r.cond]))
structure RoleTransV where
  roles : SetV
  types : SetV
  cls : Int
  result : Int
def RoleTransV.row (r : RoleTransV) : List DVal := r.roles.row ++ (r.types.row ++ [.int .i64 r.cls, .int .i64 r.result])
structure RangeTransV where
  source : SetV
  target : SetV
  cls : Int
  lo : LvV
  hi : LvV
def RangeTransV.row (r : RangeTransV) : List DVal := r.source.row ++ (r.target.row ++ (.int .i64 r.cls :: (r.lo.row ++ r.hi.row)))
inductive ExprV where
  | mk (op a rel b : Int) (names : Sl Bs) (set : SetV) (kz : Zs) (kids : List ExprV)
mutual
def ExprV.row : ExprV → List DVal
  | .mk op a rel b names set kz kids => [.int .i64 op, .int .i64 a, .int .i64 rel, .int .i64 b, strs names] ++ (set.row ++ [slD kz 10 (ExprV.rows kids)])
def ExprV.rows : List ExprV → List (List DVal)
  | [] => []
  | e :: es => e.row :: ExprV.rows es
end
structure ConstrV where
  cls : Int
  perms : Nat
  validate : Bool
  expr : ExprV
  lt : perms < 4294967296
def ConstrV.row (c : ConstrV) : List DVal := [.int .i64 c.cls, .int .u32 c.perms, .bool c.validate] ++ c.expr.row
structure SidV where
  name : Bs
  ctx : CtxV
def SidV.row (s : SidV) : List DVal := .str s.name :: s.ctx.row
structure FileV where
  pattern : Bs
  kind : Int
  ctx : CtxV
def FileV.row (f : FileV) : List DVal := [.str f.pattern, .int .i64 f.kind] ++ f.ctx.row
structure AssertV where
  name : Bs
  kind : Int
  source : SetV
  target : SetV
def AssertV.row (a : AssertV) : List DVal := [.str a.name, .int .i64 a.kind] ++ (a.source.row ++ a.target.row)
structure PolV where
  classes : Sl ClassV
  types : Sl TypeV
  attrs : Sl AttrV
  roles : Sl RoleV
  users : Sl UserV
  bools : Sl BoolV
  sens : Sl Bs
  cats : Sl Bs
  conds : Sl ExprV
  rules : Sl RuleV
  trans : Sl TransV
  roleTrans : Sl RoleTransV
  ranges : Sl RangeTransV
  constrs : Sl ConstrV
  sids : Sl SidV
  files : Sl FileV
  asserts : Sl AssertV
def slOf {α : Type} (n : Nat) (f : α → List DVal) (s : Sl α) : DVal := slD s.z n (s.l.map f)
def PolV.row (p : PolV) : List DVal :=
  [slOf 2 ClassV.row p.classes, slOf 3 TypeV.row p.types, slOf 5 AttrV.row p.attrs, slOf 9 RoleV.row p.roles, slOf 11 UserV.row p.users, slOf 2 BoolV.row p.bools, strs p.sens, strs p.cats, slOf 10 ExprV.row p.conds, slOf 13 RuleV.row p.rules, slOf 13 TransV.row p.trans, slOf 10 RoleTransV.row p.roleTrans, slOf 13 RangeTransV.row p.ranges, slOf 13 ConstrV.row p.constrs, slOf 8 SidV.row p.sids, slOf 9 FileV.row p.files, slOf 10 AssertV.row p.asserts]
def PolV.d (p : PolV) : DVal := .agg p.row
section
variable {α : Type} {f : α → List DVal} {n : Nat} {s : Sl α}
@[simp] theorem len_slOf : lenSlSem [slOf n f s] = some (.int .i64 s.l.length) := by simp [slOf]
@[simp] theorem idx_slOf {k : IntKind} {i : Int} : idxSSem n [slOf n f s, .int k i] = if 0 ≤ i then (s.l[i.toNat]?).map fun e => .elem (f e) 0 else none := by
  simp only [slOf, idx_slD]
  split
  · simp only [List.getElem?_map, Option.map_map, Function.comp_def]
  · rfl
@[simp] theorem cells_slOf : (slOf n f s).cells = [slOf n f s] := by simp [slOf]
@[simp] theorem okCell_slOf : (slOf n f s).okCell = true := by simp [slOf]
@[simp] theorem okVal_slOf : (slOf n f s).okVal = true := by simp [slOf]
@[simp] theorem sealCell_slOf : (slOf n f s).sealCell = some (slOf n f s) := by simp [slOf]
@[simp] theorem sealVal_slOf : (slOf n f s).sealVal = some (slOf n f s) := by simp [slOf]
@[simp] theorem stale_slOf : (slOf n f s).stale = slOf n f s := by simp [slOf]
@[simp] theorem len_strs {s : Sl Bs} : lenSlSem [strs s] = some (.int .i64 s.l.length) := by simp [strs]
@[simp] theorem idx_strs {s : Sl Bs} {k : IntKind} {i : Int} : idxSSem 1 [strs s, .int k i] = if 0 ≤ i then (s.l[i.toNat]?).map fun e => .elem [.str e] 0 else none := by
  simp only [strs, idx_slD]
  split
  · simp only [List.getElem?_map, Option.map_map, Function.comp_def]
  · rfl
@[simp] theorem cells_strs {s : Sl Bs} : (strs s).cells = [strs s] := by simp [strs]
@[simp] theorem okCell_strs {s : Sl Bs} : (strs s).okCell = true := by simp [strs]
@[simp] theorem okVal_strs {s : Sl Bs} : (strs s).okVal = true := by simp [strs]
@[simp] theorem sealCell_strs {s : Sl Bs} : (strs s).sealCell = some (strs s) := by simp [strs]
@[simp] theorem sealVal_strs {s : Sl Bs} : (strs s).sealVal = some (strs s) := by simp [strs]
@[simp] theorem stale_strs {s : Sl Bs} : (strs s).stale = strs s := by simp [strs]
end
section
variable {p : PolV}
@[simp] theorem cells_pol : p.d.cells = p.row := rfl
@[simp] theorem okVal_pol : p.d.okVal = true := by simp [PolV.d, PolV.row, DVal.okVal]
@[simp] theorem sealVal_pol : p.d.sealVal = some p.d := by simp [PolV.d, PolV.row, DVal.sealVal, sealCells]
@[simp] theorem stale_pol : p.d.stale = p.d := rfl
@[simp] theorem fld_classes : fldSem 0 none [p.d] = some (slOf 2 ClassV.row p.classes) := rfl
@[simp] theorem fld_types : fldSem 1 none [p.d] = some (slOf 3 TypeV.row p.types) := rfl
@[simp] theorem fld_attrs : fldSem 2 none [p.d] = some (slOf 5 AttrV.row p.attrs) := rfl
@[simp] theorem fld_roles : fldSem 3 none [p.d] = some (slOf 9 RoleV.row p.roles) := rfl
@[simp] theorem fld_users : fldSem 4 none [p.d] = some (slOf 11 UserV.row p.users) := rfl
@[simp] theorem fld_bools : fldSem 5 none [p.d] = some (slOf 2 BoolV.row p.bools) := rfl
@[simp] theorem fld_sens : fldSem 6 none [p.d] = some (strs p.sens) := rfl
@[simp] theorem fld_cats : fldSem 7 none [p.d] = some (strs p.cats) := rfl
@[simp] theorem fld_conds : fldSem 8 none [p.d] = some (slOf 10 ExprV.row p.conds) := rfl
@[simp] theorem fld_rules : fldSem 9 none [p.d] = some (slOf 13 RuleV.row p.rules) := rfl
@[simp] theorem fld_trans : fldSem 10 none [p.d] = some (slOf 13 TransV.row p.trans) := rfl
@[simp] theorem fld_roleTrans : fldSem 11 none [p.d] = some (slOf 10 RoleTransV.row p.roleTrans) := rfl
@[simp] theorem fld_ranges : fldSem 12 none [p.d] = some (slOf 13 RangeTransV.row p.ranges) := rfl
@[simp] theorem fld_constrs : fldSem 13 none [p.d] = some (slOf 13 ConstrV.row p.constrs) := rfl
@[simp] theorem fld_sids : fldSem 14 none [p.d] = some (slOf 8 SidV.row p.sids) := rfl
@[simp] theorem fld_files : fldSem 15 none [p.d] = some (slOf 9 FileV.row p.files) := rfl
@[simp] theorem fld_asserts : fldSem 16 none [p.d] = some (slOf 10 AssertV.row p.asserts) := rfl
end
end Go.Proofs.YtklepphkbbjbjaaDoor
namespace Go.Proofs.YtklepphkbbjbjaaDoor
set_option linter.unusedVariables false
set_option linter.unusedSimpArgs false
open Go
structure NodeV where
  up : Int
  name : Bs
  kind : Int
  label : Int
def NodeV.row (x : NodeV) : List DVal := (.int .i64 x.up :: (.str x.name :: (.int .i64 x.kind :: (.int .i64 x.label :: []))))
def NodeV.d (x : NodeV) : DVal := .agg x.row
@[simp high] theorem NodeV_jbox (x : NodeV) : jboxSem [x.d] = some x.d := rfl
@[simp high] theorem NodeV_seal (x : NodeV) : x.d.sealVal = some x.d := rfl
@[simp high] theorem NodeV_okVal (x : NodeV) : x.d.okVal = true := rfl
@[simp high] theorem NodeV_stale (x : NodeV) : x.d.stale = x.d := rfl
@[simp high] theorem NodeV_back (x : NodeV) (σ : Sto) : x.d.handBack σ = some x.d := by rw [show x.d.handBack σ = x.d.sealVal.or (x.d.snapVal σ) from rfl, NodeV_seal x]; rfl
@[simp high] theorem NodeV_whole (x : NodeV) : fldSem 0 (some 4) [x.d] = some x.d := rfl
@[simp high] theorem NodeV_el (x : NodeV) : ldESem (some 4) [.elem x.row 0] = some x.d := rfl
@[simp high] theorem NodeV_wr (x : NodeV) (c0 c1 c2 c3 : DVal) : jwrSem 0 4 [.agg [c0, c1, c2, c3], x.d] = some x.d := rfl
@[simp high] theorem NodeV_wr2 (x y : NodeV) : jwrSem 0 4 [x.d, y.d] = some y.d := rfl
@[simp high] theorem NodeV_f_up (x : NodeV) : fldSem 0 none [x.d] = some (.int .i64 x.up) := rfl
@[simp high] theorem NodeV_e_up (x : NodeV) : ldESem none [.elem x.row 0] = some (.int .i64 x.up) := rfl
@[simp high] theorem NodeV_set_up (x : NodeV) (v : Int) : jwrSem 0 1 [x.d, (.int .i64 v)] = some ({ x with up := v } : NodeV).d := rfl
@[simp high] theorem NodeV_f_name (x : NodeV) : fldSem 1 none [x.d] = some (.str x.name) := rfl
@[simp high] theorem NodeV_e_name (x : NodeV) : ldESem none [.elem x.row 1] = some (.str x.name) := rfl
@[simp high] theorem NodeV_set_name (x : NodeV) (v : Bs) : jwrSem 1 1 [x.d, (.str v)] = some ({ x with name := v } : NodeV).d := rfl
@[simp high] theorem NodeV_f_kind (x : NodeV) : fldSem 2 none [x.d] = some (.int .i64 x.kind) := rfl
@[simp high] theorem NodeV_e_kind (x : NodeV) : ldESem none [.elem x.row 2] = some (.int .i64 x.kind) := rfl
@[simp high] theorem NodeV_set_kind (x : NodeV) (v : Int) : jwrSem 2 1 [x.d, (.int .i64 v)] = some ({ x with kind := v } : NodeV).d := rfl
@[simp high] theorem NodeV_f_label (x : NodeV) : fldSem 3 none [x.d] = some (.int .i64 x.label) := rfl
@[simp high] theorem NodeV_e_label (x : NodeV) : ldESem none [.elem x.row 3] = some (.int .i64 x.label) := rfl
@[simp high] theorem NodeV_set_label (x : NodeV) (v : Int) : jwrSem 3 1 [x.d, (.int .i64 v)] = some ({ x with label := v } : NodeV).d := rfl
structure ObjV where
  num : Int
  dir : Int
  name : Bs
  kind : Int
  label : Int
def ObjV.row (x : ObjV) : List DVal := (.int .i64 x.num :: (.int .i64 x.dir :: (.str x.name :: (.int .i64 x.kind :: (.int .i64 x.label :: [])))))
def ObjV.d (x : ObjV) : DVal := .agg x.row
theorem ObjV_len (x : ObjV) : x.row.length = 5 := rfl
theorem ObjV_cells (x : ObjV) : sealCells x.row = some x.row := by simp [sealCells, NodeV.row, ObjV.row]
@[simp high] theorem ObjV_jbox (x : ObjV) : jboxSem [x.d] = some x.d := rfl
@[simp high] theorem ObjV_seal (x : ObjV) : x.d.sealVal = some x.d := rfl
@[simp high] theorem ObjV_okVal (x : ObjV) : x.d.okVal = true := rfl
@[simp high] theorem ObjV_stale (x : ObjV) : x.d.stale = x.d := rfl
@[simp high] theorem ObjV_back (x : ObjV) (σ : Sto) : x.d.handBack σ = some x.d := by rw [show x.d.handBack σ = x.d.sealVal.or (x.d.snapVal σ) from rfl, ObjV_seal x]; rfl
@[simp high] theorem ObjV_whole (x : ObjV) : fldSem 0 (some 5) [x.d] = some x.d := rfl
@[simp high] theorem ObjV_el (x : ObjV) : ldESem (some 5) [.elem x.row 0] = some x.d := rfl
@[simp high] theorem ObjV_wr (x : ObjV) (c0 c1 c2 c3 c4 : DVal) : jwrSem 0 5 [.agg [c0, c1, c2, c3, c4], x.d] = some x.d := rfl
@[simp high] theorem ObjV_wr2 (x y : ObjV) : jwrSem 0 5 [x.d, y.d] = some y.d := rfl
theorem ObjV_slice (C : CallP) (x : ObjV) : POp.sem C [x.d] (.bslice false 5) = some (.slice false 1 5 [x.row]) := by
  show (sealElems false 5 [x.d]).map _ = _
  have h1 : x.d.cells = x.row := rfl
  simp [sealElems, h1, ObjV_len, ObjV_cells]
@[simp high] theorem ObjV_f_num (x : ObjV) : fldSem 0 none [x.d] = some (.int .i64 x.num) := rfl
@[simp high] theorem ObjV_e_num (x : ObjV) : ldESem none [.elem x.row 0] = some (.int .i64 x.num) := rfl
@[simp high] theorem ObjV_set_num (x : ObjV) (v : Int) : jwrSem 0 1 [x.d, (.int .i64 v)] = some ({ x with num := v } : ObjV).d := rfl
@[simp high] theorem ObjV_f_dir (x : ObjV) : fldSem 1 none [x.d] = some (.int .i64 x.dir) := rfl
@[simp high] theorem ObjV_e_dir (x : ObjV) : ldESem none [.elem x.row 1] = some (.int .i64 x.dir) := rfl
@[simp high] theorem ObjV_set_dir (x : ObjV) (v : Int) : jwrSem 1 1 [x.d, (.int .i64 v)] = some ({ x with dir := v } : ObjV).d := rfl
@[simp high] theorem ObjV_f_name (x : ObjV) : fldSem 2 none [x.d] = some (.str x.name) := rfl
@[simp high] theorem ObjV_e_name (x : ObjV) : ldESem none [.elem x.row 2] = some (.str x.name) := rfl
@[simp high] theorem ObjV_set_name (x : ObjV) (v : Bs) : jwrSem 2 1 [x.d, (.str v)] = some ({ x with name := v } : ObjV).d := rfl
@[simp high] theorem ObjV_f_kind (x : ObjV) : fldSem 3 none [x.d] = some (.int .i64 x.kind) := rfl
@[simp high] theorem ObjV_e_kind (x : ObjV) : ldESem none [.elem x.row 3] = some (.int .i64 x.kind) := rfl
@[simp high] theorem ObjV_set_kind (x : ObjV) (v : Int) : jwrSem 3 1 [x.d, (.int .i64 v)] = some ({ x with kind := v } : ObjV).d := rfl
@[simp high] theorem ObjV_f_label (x : ObjV) : fldSem 4 none [x.d] = some (.int .i64 x.label) := rfl
@[simp high] theorem ObjV_e_label (x : ObjV) : ldESem none [.elem x.row 4] = some (.int .i64 x.label) := rfl
@[simp high] theorem ObjV_set_label (x : ObjV) (v : Int) : jwrSem 4 1 [x.d, (.int .i64 v)] = some ({ x with label := v } : ObjV).d := rfl
structure StaV where
  objs : Sl ObjV
  last : Int
def StaV.row (x : StaV) : List DVal := (slOf 5 ObjV.row x.objs :: (.int .i64 x.last :: []))
def StaV.d (x : StaV) : DVal := .agg x.row
theorem StaV_len (x : StaV) : x.row.length = 2 := rfl
theorem StaV_cells (x : StaV) : sealCells x.row = some x.row := by simp [sealCells, NodeV.row, ObjV.row, StaV.row]
@[simp high] theorem StaV_jbox (x : StaV) : jboxSem [x.d] = some x.d := by simp [jboxSem, DVal.cells, StaV.d, NodeV.row, ObjV.row, StaV.row]
@[simp high] theorem StaV_seal (x : StaV) : x.d.sealVal = some x.d := by simp [DVal.sealVal, sealCells, StaV.d, NodeV.row, ObjV.row, StaV.row]
@[simp high] theorem StaV_okVal (x : StaV) : x.d.okVal = true := by simp [DVal.okVal, StaV.d, NodeV.row, ObjV.row, StaV.row]
@[simp high] theorem StaV_stale (x : StaV) : x.d.stale = x.d := rfl
@[simp high] theorem StaV_back (x : StaV) (σ : Sto) : x.d.handBack σ = some x.d := by rw [show x.d.handBack σ = x.d.sealVal.or (x.d.snapVal σ) from rfl, StaV_seal x]; rfl
@[simp high] theorem StaV_whole (x : StaV) : fldSem 0 (some 2) [x.d] = some x.d := rfl
@[simp high] theorem StaV_el (x : StaV) : ldESem (some 2) [.elem x.row 0] = some x.d := rfl
@[simp high] theorem StaV_wr (x : StaV) (c0 c1 : DVal) : jwrSem 0 2 [.agg [c0, c1], x.d] = some x.d := by simp [jwrSem, DVal.cells, writeCells, StaV.d, NodeV.row, ObjV.row, StaV.row]
@[simp high] theorem StaV_wr2 (x y : StaV) : jwrSem 0 2 [x.d, y.d] = some y.d := by simp [jwrSem, DVal.cells, writeCells, StaV.d, NodeV.row, ObjV.row, StaV.row]
theorem StaV_slice (C : CallP) (x : StaV) : POp.sem C [x.d] (.bslice false 2) = some (.slice false 1 2 [x.row]) := by
  show (sealElems false 2 [x.d]).map _ = _
  have h1 : x.d.cells = x.row := rfl
  simp [sealElems, h1, StaV_len, StaV_cells]
@[simp high] theorem StaV_f_objs (x : StaV) : fldSem 0 none [x.d] = some (slOf 5 ObjV.row x.objs) := rfl
@[simp high] theorem StaV_e_objs (x : StaV) : ldESem none [.elem x.row 0] = some (slOf 5 ObjV.row x.objs) := rfl
@[simp high] theorem StaV_set_objs (x : StaV) (v : Sl ObjV) : jwrSem 0 1 [x.d, (slOf 5 ObjV.row v)] = some ({ x with objs := v } : StaV).d := by simp [jwrSem, writeCells, StaV.d, NodeV.row, ObjV.row, StaV.row]
@[simp high] theorem StaV_f_last (x : StaV) : fldSem 1 none [x.d] = some (.int .i64 x.last) := rfl
@[simp high] theorem StaV_e_last (x : StaV) : ldESem none [.elem x.row 1] = some (.int .i64 x.last) := rfl
@[simp high] theorem StaV_set_last (x : StaV) (v : Int) : jwrSem 1 1 [x.d, (.int .i64 v)] = some ({ x with last := v } : StaV).d := by simp [jwrSem, DVal.cells, writeCells, StaV.d, NodeV.row, ObjV.row, StaV.row]
structure StepV where
  kind : Int
  num : Int
  dir : Int
  what : Int
  label : Int
  name : Bs
def StepV.row (x : StepV) : List DVal := (.int .i64 x.kind :: (.int .i64 x.num :: (.int .i64 x.dir :: (.int .i64 x.what :: (.int .i64 x.label :: (.str x.name :: []))))))
def StepV.d (x : StepV) : DVal := .agg x.row
@[simp high] theorem StepV_jbox (x : StepV) : jboxSem [x.d] = some x.d := rfl
@[simp high] theorem StepV_seal (x : StepV) : x.d.sealVal = some x.d := rfl
@[simp high] theorem StepV_okVal (x : StepV) : x.d.okVal = true := rfl
@[simp high] theorem StepV_stale (x : StepV) : x.d.stale = x.d := rfl
@[simp high] theorem StepV_back (x : StepV) (σ : Sto) : x.d.handBack σ = some x.d := by rw [show x.d.handBack σ = x.d.sealVal.or (x.d.snapVal σ) from rfl, StepV_seal x]; rfl
@[simp high] theorem StepV_whole (x : StepV) : fldSem 0 (some 6) [x.d] = some x.d := rfl
@[simp high] theorem StepV_el (x : StepV) : ldESem (some 6) [.elem x.row 0] = some x.d := rfl
@[simp high] theorem StepV_wr (x : StepV) (c0 c1 c2 c3 c4 c5 : DVal) : jwrSem 0 6 [.agg [c0, c1, c2, c3, c4, c5], x.d] = some x.d := rfl
@[simp high] theorem StepV_wr2 (x y : StepV) : jwrSem 0 6 [x.d, y.d] = some y.d := rfl
@[simp high] theorem StepV_f_kind (x : StepV) : fldSem 0 none [x.d] = some (.int .i64 x.kind) := rfl
@[simp high] theorem StepV_e_kind (x : StepV) : ldESem none [.elem x.row 0] = some (.int .i64 x.kind) := rfl
@[simp high] theorem StepV_set_kind (x : StepV) (v : Int) : jwrSem 0 1 [x.d, (.int .i64 v)] = some ({ x with kind := v } : StepV).d := rfl
@[simp high] theorem StepV_f_num (x : StepV) : fldSem 1 none [x.d] = some (.int .i64 x.num) := rfl
@[simp high] theorem StepV_e_num (x : StepV) : ldESem none [.elem x.row 1] = some (.int .i64 x.num) := rfl
@[simp high] theorem StepV_set_num (x : StepV) (v : Int) : jwrSem 1 1 [x.d, (.int .i64 v)] = some ({ x with num := v } : StepV).d := rfl
@[simp high] theorem StepV_f_dir (x : StepV) : fldSem 2 none [x.d] = some (.int .i64 x.dir) := rfl
@[simp high] theorem StepV_e_dir (x : StepV) : ldESem none [.elem x.row 2] = some (.int .i64 x.dir) := rfl
@[simp high] theorem StepV_set_dir (x : StepV) (v : Int) : jwrSem 2 1 [x.d, (.int .i64 v)] = some ({ x with dir := v } : StepV).d := rfl
@[simp high] theorem StepV_f_what (x : StepV) : fldSem 3 none [x.d] = some (.int .i64 x.what) := rfl
@[simp high] theorem StepV_e_what (x : StepV) : ldESem none [.elem x.row 3] = some (.int .i64 x.what) := rfl
@[simp high] theorem StepV_set_what (x : StepV) (v : Int) : jwrSem 3 1 [x.d, (.int .i64 v)] = some ({ x with what := v } : StepV).d := rfl
@[simp high] theorem StepV_f_label (x : StepV) : fldSem 4 none [x.d] = some (.int .i64 x.label) := rfl
@[simp high] theorem StepV_e_label (x : StepV) : ldESem none [.elem x.row 4] = some (.int .i64 x.label) := rfl
@[simp high] theorem StepV_set_label (x : StepV) (v : Int) : jwrSem 4 1 [x.d, (.int .i64 v)] = some ({ x with label := v } : StepV).d := rfl
@[simp high] theorem StepV_f_name (x : StepV) : fldSem 5 none [x.d] = some (.str x.name) := rfl
@[simp high] theorem StepV_e_name (x : StepV) : ldESem none [.elem x.row 5] = some (.str x.name) := rfl
@[simp high] theorem StepV_set_name (x : StepV) (v : Bs) : jwrSem 5 1 [x.d, (.str v)] = some ({ x with name := v } : StepV).d := rfl
end Go.Proofs.YtklepphkbbjbjaaDoor
