/- Texts of this proof, part 3: see the card for what is proved. -/
import Derived.Test.YtdibpeknpmhknaaFq02
import Derived.OpenShut
import Derived.Carry
import Derived.DataReads
import Derived.Shelf.Vars
namespace Go.Proofs.Ytdibpeknpmhknaa
set_option linter.unusedVariables false
set_option linter.unusedSimpArgs false
open Go Go.RowKit
inductive Zs where
  | nil
  | empt
  | full
  | lit
deriving DecidableEq
def slD (z : Zs) (sz : Nat) (es : List (List DVal)) : DVal :=
  match z with
  | .nil => match es with
    | [] => .nils
    | e :: es => .slice false 0 sz (e :: es)
  | .empt => match es with
    | [] => .empt
    | e :: es => .slice false 0 sz (e :: es)
  | .full => .slice false 0 sz es
  | .lit => .slice false 1 sz es
def fieldsAt (P : Program) (rec : TypeId → Bool) (off : Nat) : List Field → Option Nat
  | [] => some off
  | f :: fs => if f.offset = off && rec f.type then fieldsAt P rec (off + P.cellsOf f.type) fs else none
def plainT (P : Program) (S : List TypeId) (t : TypeId) : Bool :=
  match P.underlying t with
  | some .bool | some (.int _) | some .string => true
  | some (.slice e) => S.contains e && Nat.blt 0 (P.cellsOf e)
  | some (.array len e) => S.contains e && Nat.beq (P.cellsOf t) (len * P.cellsOf e)
  | some (.struct fs) => match fieldsAt P S.contains 0 fs.toList with
    | some k => Nat.beq k (P.cellsOf t)
    | none => false
  | _ => false
def plainS (P : Program) (S : List TypeId) : Bool := S.all (plainT P S)
def DTy (P : Program) : Nat → TypeId → List DVal → Prop
  | 0, _, _ => False
  | n + 1, t, cs => match P.underlying t with
    | some .bool => ∃ b, cs = [.bool b]
    | some (.int k) => ∃ i, cs = [.int k i] ∧ (Lit.int k i).wf = true
    | some .string => ∃ s, cs = [.str s] ∧ s.length ≤ maxLen
    | some (.slice e) => ∃ z es, cs = [slD z (P.cellsOf e) es] ∧ (∀ r ∈ es, DTy P n e r) ∧ es.length ≤ maxLen
    | some (.array len e) => ∃ rows : List (List DVal), rows.length = len ∧ (∀ r ∈ rows, DTy P n e r) ∧ cs = rows.flatten
    | some (.struct fs) => fs.toList.foldr (fun f K cs => ∃ a b, cs = a ++ b ∧ DTy P n f.type a ∧ K b) (fun cs => cs = []) cs
    | _ => False
def DTyArg (P : Program) (k : Nat) (t : TypeId) (d : DVal) : Prop :=
  match P.underlying t with
  | some (.struct _) | some (.array _ _) => ∃ cs, d = .agg cs ∧ DTy P k t cs
  | _ => DTy P k t [d]
def DTyArgs (P : Program) (k : Nat) : List TypeId → List DVal → Prop
  | [], ds => ds = []
  | t :: ts, ds => ∃ d es, ds = d :: es ∧ DTyArg P k t d ∧ DTyArgs P k ts es
section
variable {H : Type} {enc : TypeId × Value → H} {P : Program} {w : World} {spare : Nat → Bool} {held : Bool}
def oldI (w : World) (b n : Nat) : Prop := b < w.heap.size
theorem imm_old {b n : Nat} : (VI (oldI w) w.heap.size).imm b n ↔ b < w.heap.size := by rw [VI_imm]; exact ⟨fun h => h.1, fun h => ⟨h, h⟩⟩
abbrev VO (w : World) : Vw := VI (oldI w) w.heap.size
theorem row_of_cells {b : Nat} : ∀ {ds : List DVal} {cs : List Value} {off : Nat}, (∀ i v, cs[i]? = some v → w.cell? ⟨b, off + i, none⟩ = some v) → (∀ v ∈ cs, v.oneCell' = true) → (0 < cs.length → b < w.heap.size) → VRels (VO w) w 2 ds cs → RowRel (VO w) w 2 b off ds
  | [], cs, off, _, _, _, _ => by simp only [RowRel]
  | d :: ds, cs, off, hc, h1, hb, h => by
    simp only [VRels] at h
    obtain ⟨v, us, rfl, hv, hr⟩ := h
    simp only [RowRel]
    refine ⟨imm_old.2 (hb (by simp)), ⟨v, hc 0 v rfl, h1 v (by simp), hv⟩, ?_⟩
    refine row_of_cells (cs := us) (fun i u hu => ?_) (fun u hu => h1 u (by simp [hu])) (fun _ => hb (by simp)) hr
    have := hc (i + 1) u (by simpa using hu)
    rwa [show off + 1 + i = off + (i + 1) by omega]
theorem array_cells {D : List DVal → Prop} {w : World} {cs : List Value} {n c : Nat} (hl : cs.length = n * c)
    (h : ∀ i, i < n → ∃ ds, D ds ∧ VRels (VO w) w 2 ds ((cs.drop (i * c)).take c) ∧ ∀ v ∈ (cs.drop (i * c)).take c, v.oneCell' = true) :
    ∃ rows : List (List DVal), rows.length = n ∧ (∀ r ∈ rows, D r) ∧ VRels (VO w) w 2 rows.flatten cs ∧ ∀ v ∈ cs, v.oneCell' = true := by
  have key : ∀ m, m ≤ n → ∃ rows : List (List DVal), rows.length = m ∧ (∀ r ∈ rows, D r) ∧ VRels (VO w) w 2 rows.flatten (cs.drop ((n - m) * c)) ∧ ∀ v ∈ cs.drop ((n - m) * c), v.oneCell' = true := by
    intro m
    induction m with
    | zero =>
      intro _
      have : cs.drop ((n - 0) * c) = [] := List.drop_of_length_le (by rw [Nat.sub_zero, hl]; exact Nat.le_refl _)
      rw [this]
      exact ⟨[], rfl, by simp, by simp [VRels], by simp⟩
    | succ m ih =>
      intro hm
      obtain ⟨rows, r1, r2, r3, r4⟩ := ih (by omega)
      obtain ⟨ds, d1, d2, d3⟩ := h (n - (m + 1)) (by omega)
      have e : (n - (m + 1)) * c + c = (n - m) * c := by rw [show n - m = (n - (m + 1)) + 1 by omega, Nat.add_mul]; omega
      have hsplit : cs.drop ((n - (m + 1)) * c) = (cs.drop ((n - (m + 1)) * c)).take c ++ cs.drop ((n - m) * c) := by
        rw [← e, ← List.drop_drop, List.take_append_drop]
      refine ⟨ds :: rows, by simp [r1], by simpa using ⟨d1, r2⟩, ?_, ?_⟩
      · rw [hsplit, List.flatten_cons]; exact d2.append r3
      · rw [hsplit]
        intro v hv
        rcases List.mem_append.1 hv with hv | hv
        · exact d3 v hv
        · exact r4 v hv
  have := key n (Nat.le_refl _)
  simpa using this
theorem fields_cells {rec : TypeId → Bool} {D : TypeId → List DVal → Prop} {w : World} {cs : List Value} :
    ∀ (fs : List Field) (off k : Nat), fieldsAt P rec off fs = some k → off ≤ cs.length → k = cs.length →
      (∀ f, f ∈ fs → rec f.type = true → f.offset + P.cellsOf f.type ≤ cs.length → ∃ ds, D f.type ds ∧ VRels (VO w) w 2 ds ((cs.drop f.offset).take (P.cellsOf f.type)) ∧ ∀ v ∈ (cs.drop f.offset).take (P.cellsOf f.type), v.oneCell' = true) →
      ∃ ds, fs.foldr (fun f K cs => ∃ a b, cs = a ++ b ∧ D f.type a ∧ K b) (fun cs => cs = []) ds ∧ VRels (VO w) w 2 ds (cs.drop off) ∧ ∀ v ∈ cs.drop off, v.oneCell' = true
  | [], off, k, h, hle, hk, _ => by
    simp only [fieldsAt, Option.some.injEq] at h
    subst h hk
    rw [List.drop_length]
    exact ⟨[], rfl, by simp [VRels], by simp⟩
  | f :: fs, off, k, h, hle, hk, hf => by
    simp only [fieldsAt] at h
    split at h
    · rename_i hc
      simp only [Bool.and_eq_true, decide_eq_true_eq] at hc
      obtain ⟨rfl, hr⟩ := hc
      have hkle : ∀ (gs : List Field) (o q : Nat), fieldsAt P rec o gs = some q → o ≤ q := by
        intro gs
        induction gs with
        | nil => intro o q h; simp only [fieldsAt, Option.some.injEq] at h; omega
        | cons g gs ih =>
          intro o q h
          simp only [fieldsAt] at h
          split at h
          · have := ih _ _ h; omega
          · cases h
      have hle2 : f.offset + P.cellsOf f.type ≤ cs.length := by have := hkle _ _ _ h; omega
      obtain ⟨ds1, a1, a2, a3⟩ := hf f (by simp) hr hle2
      obtain ⟨ds2, b1, b2, b3⟩ := fields_cells fs _ k h hle2 hk (fun g hg => hf g (by simp [hg]))
      have hsplit : cs.drop f.offset = (cs.drop f.offset).take (P.cellsOf f.type) ++ cs.drop (f.offset + P.cellsOf f.type) := by
        rw [← List.drop_drop, List.take_append_drop]
      refine ⟨ds1 ++ ds2, ⟨ds1, ds2, rfl, a1, b1⟩, ?_, ?_⟩
      · rw [hsplit]; exact a2.append b2
      · rw [hsplit]
        intro v hv
        rcases List.mem_append.1 hv with hv | hv
        · exact a3 v hv
        · exact b3 v hv
    · cases h
theorem trod_cells {S : List TypeId} (hS : plainS P S = true) : ∀ (k : Nat) (t : TypeId), t ∈ S → ∀ (cs : List Value) (x : DataW H × List MemPlace), DataW.trod enc P w 0 (fun _ => true) held k t cs = some x →
    ∃ ds, DTy P k t ds ∧ VRels (VO w) w 2 ds cs ∧ ∀ v ∈ cs, v.oneCell' = true
  | 0, t, _, _, _, h => by simp [DataW.trod] at h
  | k + 1, t, ht, cs, x, h => by
    have ih := trod_cells hS k
    have hp : plainT P S t = true := by
      unfold plainS at hS
      rw [List.all_eq_true] at hS
      exact hS t ht
    unfold plainT at hp
    unfold DTy
    split at hp
    · rename_i hu
      obtain ⟨b, rfl, -⟩ := DataW.trod_bool hu h
      exact ⟨[.bool b], ⟨b, rfl⟩, ⟨_, [], rfl, by simp [VRel], by simp [VRels]⟩, by simp [Value.oneCell']⟩
    · rename_i kk hu
      obtain ⟨n, rfl, -, hw⟩ := DataW.trod_int hu h
      exact ⟨[.int kk n], ⟨n, rfl, hw⟩, ⟨_, [], rfl, by simp [VRel], by simp [VRels]⟩, by simp [Value.oneCell']⟩
    · rename_i hu
      obtain ⟨s, rfl, -, hs⟩ := DataW.trod_string hu h
      exact ⟨[.str s.data.toList], ⟨_, rfl, by rw [Array.length_toList]; exact hs⟩, ⟨_, [], rfl, by simp [VRel], by simp [VRels]⟩, by simp [Value.oneCell']⟩
    · rename_i e hu
      simp only [Bool.and_eq_true, Nat.blt_eq, List.contains_iff_mem] at hp
      rcases DataW.trod_slice hu h with ⟨rfl, -⟩ | ⟨a, len, cap, elems, rest, n, hn, rfl, rfl, -, hlc, hcap, hlen, hel, hrest, -⟩
      · exact ⟨[.nils], ⟨.nil, [], rfl, by simp, Nat.zero_le _⟩, ⟨_, [], rfl, by simp [VRel], by simp [VRels]⟩, by simp [Value.oneCell']⟩
      · obtain rfl : n = k := by omega
        by_cases h0 : cap = 0
        · subst h0
          obtain rfl : len = 0 := by omega
          exact ⟨[.empt], ⟨.empt, [], rfl, by simp, Nat.zero_le _⟩, ⟨_, [], rfl, by simp [VRel], by simp [VRels]⟩, by simp [Value.oneCell']⟩
        have hspot : a.spot = none := by
          have hread : ∃ cs', w.cells? 0 (a.add (0 * P.cellsOf e)) (P.cellsOf e) = some cs' := by
            by_cases hl0 : len = 0
            · have := (hrest rfl).2 0 (by omega)
              have hl := (hrest rfl).1
              rw [List.getElem?_eq_getElem (by omega), Option.bind_eq_some_iff] at this
              obtain ⟨cs', hc', -⟩ := this
              exact ⟨cs', by simpa [hl0] using hc'⟩
            · have := hel 0 (by omega)
              rw [List.getElem?_eq_getElem (by omega), Option.bind_eq_some_iff] at this
              obtain ⟨cs', hc', -⟩ := this
              exact ⟨cs', hc'⟩
          obtain ⟨cs', hc'⟩ := hread
          obtain ⟨-, hl', hget⟩ := World.cells?_some hc'
          have := hget 0 hp.2
          rw [List.getElem?_eq_getElem (by omega)] at this
          have := World.cell?_spot this
          simpa [Addr.add] using this
        obtain ⟨b, off, spot⟩ := a
        simp only at hspot
        subst hspot
        have key : ∀ m, m ≤ len → ∃ es : List (List DVal), es.length = m ∧ (∀ r ∈ es, DTy P n e r) ∧ RowsRel (VO w) w 2 b (P.cellsOf e) (off + (len - m) * P.cellsOf e) es := by
          intro m
          induction m with
          | zero => intro _; exact ⟨[], rfl, by simp, by simp only [RowsRel]⟩
          | succ m ihm =>
            intro hm
            obtain ⟨es, e1, e2, e3⟩ := ihm (by omega)
            have hi := hel (len - (m + 1)) (by omega)
            have hlt : len - (m + 1) < elems.length := by omega
            rw [List.getElem?_eq_getElem hlt, Option.bind_eq_some_iff] at hi
            obtain ⟨cs', hc', ht'⟩ := hi
            obtain ⟨ds, d1, d2, d3⟩ := ih e hp.1 cs' _ ht'
            obtain ⟨-, hl', hget⟩ := World.cells?_some hc'
            have hcell : ∀ i v, cs'[i]? = some v → w.cell? ⟨b, off + (len - (m + 1)) * P.cellsOf e + i, none⟩ = some v := by
              intro i v hv
              have hi' : i < P.cellsOf e := by rw [← hl']; exact (List.getElem?_eq_some_iff.1 hv).1
              have := hget i hi'
              rw [hv] at this
              rw [← this]
              congr 1
              simp only [Addr.add]
              split <;> split <;> simp_all <;> omega
            have hb : 0 < cs'.length → b < w.heap.size := by
              intro h0
              have := hcell 0 cs'[0] (by rw [List.getElem?_eq_getElem h0])
              unfold World.cell? at this
              simp only at this
              split at this
              · rename_i hh; exact (Array.getElem?_eq_some_iff.1 hh).1
              · cases this
            have hrow := row_of_cells (w := w) (b := b) (off := off + (len - (m + 1)) * P.cellsOf e) hcell d3 hb d2
            refine ⟨ds :: es, by simp [e1], by simpa using ⟨d1, e2⟩, ?_⟩
            simp only [RowsRel]
            refine ⟨by rw [← d2.length, hl'], hrow, ?_⟩
            have : off + (len - (m + 1)) * P.cellsOf e + P.cellsOf e = off + (len - m) * P.cellsOf e := by
              rw [show len - m = (len - (m + 1)) + 1 by omega, Nat.add_mul]; omega
            rw [this]
            exact e3
        obtain ⟨es, e1, e2, e3⟩ := key len (Nat.le_refl _)
        have hsl : slD .full (P.cellsOf e) es = .slice false 0 (P.cellsOf e) es := by cases es <;> rfl
        refine ⟨[.slice false 0 (P.cellsOf e) es], ⟨.full, es, by rw [hsl], e2, by omega⟩, ⟨_, [], rfl, ?_, by simp [VRels]⟩, by simp [Value.oneCell']⟩
        simp only [VRel]
        refine ⟨.inr ⟨trivial, by omega⟩, b, off, cap, by rw [e1], by omega, ⟨by omega, by omega, by omega⟩, ?_⟩
        simpa [emode] using e3
    · rename_i len e hu
      simp only [Bool.and_eq_true, List.contains_iff_mem] at hp
      have hp2 := Nat.eq_of_beq_eq_true hp.2
      obtain ⟨xs, n, hn, rfl, hlen, hxs, hget⟩ := DataW.trod_array hu h
      obtain rfl : n = k := by omega
      obtain ⟨rows, r1, r2, r3, r4⟩ := array_cells (D := DTy P n e) (w := w) (cs := cs) (n := len) (c := P.cellsOf e) (by omega) (fun i hi => by
        have hx := hget i hi
        rw [List.getElem?_eq_getElem (by omega)] at hx
        exact ih e hp.1 _ _ hx)
      exact ⟨rows.flatten, ⟨rows, r1, r2, rfl⟩, r3, r4⟩
    · rename_i fs hu
      split at hp
      · rename_i q hq
        have hq' := Nat.eq_of_beq_eq_true hp
        obtain ⟨xs, n, hn, rfl, hlen, hxs, hget⟩ := DataW.trod_struct hu h
        obtain rfl : n = k := by omega
        have := fields_cells (P := P) (rec := S.contains) (D := DTy P n) (w := w) (cs := cs) fs.toList 0 q hq (Nat.zero_le _) (by omega) (by
          intro f hf hr _
          obtain ⟨i, hi⟩ := List.getElem?_of_mem hf
          rw [Array.getElem?_toList] at hi
          have hx := hget i f hi
          have hix : i < xs.length := by rw [hxs]; exact (Array.getElem?_eq_some_iff.1 hi).1
          rw [List.getElem?_eq_getElem hix] at hx
          exact ih f.type (List.contains_iff_mem.1 hr) _ _ hx)
        simpa using this
      · cases hp
    · cases hp
theorem dty_mono : ∀ {k m : Nat} {t : TypeId} {cs : List DVal}, k ≤ m → DTy P k t cs → DTy P m t cs
  | 0, _, _, _, _, h => h.elim
  | k + 1, m, t, cs, hm, h => by
    obtain ⟨m, rfl⟩ : ∃ q, m = q + 1 := ⟨m - 1, by omega⟩
    have ih : ∀ {t : TypeId} {cs : List DVal}, DTy P k t cs → DTy P m t cs := fun h => dty_mono (by omega) h
    unfold DTy at h ⊢
    split at h
    · exact h
    · exact h
    · exact h
    · obtain ⟨z, es, h1, h2, h3⟩ := h
      exact ⟨z, es, h1, fun r hr => ih (h2 r hr), h3⟩
    · obtain ⟨rows, h1, h2, h3⟩ := h
      exact ⟨rows, h1, fun r hr => ih (h2 r hr), h3⟩
    · rename_i fs hu
      have key : ∀ (fs : List Field) (cs : List DVal), fs.foldr (fun f K cs => ∃ a b, cs = a ++ b ∧ DTy P k f.type a ∧ K b) (fun cs => cs = []) cs → fs.foldr (fun f K cs => ∃ a b, cs = a ++ b ∧ DTy P m f.type a ∧ K b) (fun cs => cs = []) cs := by
        intro fs
        induction fs with
        | nil => exact fun cs h => h
        | cons f fs ihf =>
          rintro cs ⟨a, b, h1, h2, h3⟩
          exact ⟨a, b, h1, ih h2, ihf b h3⟩
      exact key _ _ h
    · exact h.elim
theorem dtyArg_mono {k m : Nat} {t : TypeId} {d : DVal} (hm : k ≤ m) (h : DTyArg P k t d) : DTyArg P m t d := by
  unfold DTyArg at h ⊢
  split at h
  · obtain ⟨cs, h1, h2⟩ := h; exact ⟨cs, h1, dty_mono hm h2⟩
  · obtain ⟨cs, h1, h2⟩ := h; exact ⟨cs, h1, dty_mono hm h2⟩
  · exact dty_mono hm h
theorem dtyArgs_mono {k m : Nat} (hm : k ≤ m) : ∀ {ts : List TypeId} {ds : List DVal}, DTyArgs P k ts ds → DTyArgs P m ts ds
  | [], _, h => h
  | _ :: _, _, ⟨d, es, h1, h2, h3⟩ => ⟨d, es, h1, dtyArg_mono hm h2, dtyArgs_mono hm h3⟩
theorem arg_rel {S : List TypeId} (hS : plainS P S = true) {t : TypeId} (ht : t ∈ S) {v : Value} {d : DataW H} {p : List MemPlace} {base : Nat} (hok : Value.okWide P w .any base t v)
    (h : DataW.Trod enc P w 0 (fun _ => true) held t v d p) : ∃ k D, DTyArg P k t D ∧ VRel (VO w) w 2 D v := by
  obtain ⟨fuel, h⟩ := h
  obtain ⟨ds, h1, h2, h3⟩ := trod_cells hS fuel t ht _ _ h
  have hp : plainT P S t = true := by
    unfold plainS at hS
    rw [List.all_eq_true] at hS
    exact hS t ht
  have hagg : (∃ cs, v = .agg cs) → ∃ D, D = .agg ds ∧ VRel (VO w) w 2 D v := by
    rintro ⟨cs, rfl⟩
    refine ⟨.agg ds, rfl, ?_⟩
    simp only [VRel]; exact ⟨cs, rfl, h2⟩
  by_cases hs : (∃ fs, P.underlying t = some (.struct fs)) ∨ ∃ n e, P.underlying t = some (.array n e)
  · obtain ⟨D, rfl, hD⟩ := hagg (by
      unfold Value.okWide at hok
      rcases hs with ⟨fs, hs⟩ | ⟨n, e, hs⟩ <;> rw [hs] at hok <;> obtain ⟨cs, rfl, -⟩ := hok <;> exact ⟨cs, rfl⟩)
    refine ⟨fuel, .agg ds, ?_, hD⟩
    unfold DTyArg
    rcases hs with ⟨fs, hs⟩ | ⟨n, e, hs⟩ <;> rw [hs] <;> exact ⟨ds, rfl, h1⟩
  · have hs1 : ∀ fs, P.underlying t ≠ some (.struct fs) := fun fs e => hs (.inl ⟨fs, e⟩)
    have hs2 : ∀ n e, P.underlying t ≠ some (.array n e) := fun n e he => hs (.inr ⟨n, e, he⟩)
    have hok' : Cell.okWide P w .any base t v := by
      unfold Value.okWide at hok
      split at hok
      · rename_i fs e; exact absurd e (hs1 fs)
      · rename_i n e he; exact absurd he (hs2 n e)
      · exact hok
    have hv : v.cells.toList = [v] := by
      cases v with
      | agg cs =>
        exfalso
        unfold Cell.okWide Cell.ok at hok'
        cases hu : P.underlying t with
        | none => rw [hu] at hok'; exact hok'
        | some d => rw [hu] at hok'; unfold plainT at hp; rw [hu] at hp; cases d <;> simp at hok' hp
      | _ => rfl
    rw [hv] at h2
    have hl := h2.length
    match ds, hl, h1, h2 with
    | [D], _, h1, h2 =>
      refine ⟨fuel, D, ?_, ?_⟩
      · unfold DTyArg
        split
        · rename_i fs e; exact absurd e (hs1 fs)
        · rename_i n e he; exact absurd he (hs2 n e)
        · exact h1
      · simp only [VRels] at h2
        obtain ⟨u, us, e, h3, -⟩ := h2
        simp only [List.cons.injEq] at e
        rw [e.1]; exact h3
theorem args_rel {S : List TypeId} (hS : plainS P S = true) {base : Nat} : ∀ {ts : List TypeId} {vs : List Value} {ds : List (DataW H)} {p : List MemPlace}, ts.all S.contains = true → (∀ (j : Nat) t v, ts[j]? = some t → vs[j]? = some v → Value.okWide P w .any base t v) →
    DataW.TrodAll enc P w 0 (fun _ => true) held ts vs ds p → ∃ k Ds, DTyArgs P k ts Ds ∧ VRels (VO w) w 2 Ds vs
  | [], [], [], p, _, _, h => ⟨0, [], rfl, by simp [VRels]⟩
  | t :: ts, v :: vs, d :: ds, p, hp, hok, h => by
    simp only [List.all_cons, Bool.and_eq_true, List.contains_iff_mem] at hp
    obtain ⟨p1, q1, h1, h2, -⟩ := h
    obtain ⟨k1, D, a1, a2⟩ := arg_rel hS hp.1 (hok 0 t v rfl rfl) h1
    obtain ⟨k2, Ds, b1, b2⟩ := args_rel hS (by simpa using hp.2) (fun j t v ht hv => hok (j + 1) t v (by simpa using ht) (by simpa using hv)) h2
    exact ⟨k1 + k2, D :: Ds, ⟨D, Ds, rfl, dtyArg_mono (by omega) a1, dtyArgs_mono (by omega) b1⟩, ⟨v, vs, rfl, a2, b2⟩⟩
  | [], _ :: _, _, _, _, _, h => h.elim
  | [], [], _ :: _, _, _, _, h => h.elim
  | _ :: _, [], _, _, _, _, h => h.elim
  | _ :: _, _ :: _, [], _, _, _, h => h.elim
theorem trodAll_below (hl : laidOutB P = true) {W' : World} (hb : Below w.heap.size w W') {sp : Nat → Bool} : ∀ {ts : List TypeId} {vs : List Value} {ds : List (DataW H)} {p : List MemPlace}, (∀ t, t ∈ ts → P.readableRec t = true ∧ t < P.types.size) →
    DataW.TrodAll enc P w 0 (fun _ => true) true ts vs ds p → (∀ x ∈ p, x.block < w.heap.size) → (∀ x ∈ p, sp x.block = true) → DataW.TrodAll enc P W' 0 sp true ts vs ds p
  | [], [], [], p, _, h, _, _ => h
  | t :: ts, v :: vs, d :: ds, p, ht, h, hlt, hsp => by
    obtain ⟨p1, q1, h1, h2, rfl⟩ := h
    exact ⟨p1, q1, WideElems.Trod_stays hl (ht t (by simp)).1 (ht t (by simp)).2 h1 (fun x hx => hb.same (hlt x (by simp [hx]))) (fun x hx => hsp x (by simp [hx])),
      trodAll_below hl hb (fun u hu => ht u (by simp [hu])) h2 (fun x hx => hlt x (by simp [hx])) (fun x hx => hsp x (by simp [hx])), rfl⟩
  | [], _ :: _, _, _, _, h, _, _ => h.elim
  | [], [], _ :: _, _, _, h, _, _ => h.elim
  | _ :: _, [], _, _, _, h, _, _ => h.elim
  | _ :: _, _ :: _, [], _, _, h, _, _ => h.elim
theorem post_of_true {fn : Func} {s : ChangeSpec} {apart fresh handsOn again : Bool} {W' : World} {args : Array Value} {ds gs : List (DataW H)} {before : List MemPlace} {tb : TypeId}
    (hW : DataW.Whole enc P fn.params.toList s.vars apart w args.toList ds gs before) (hvars : s.vars = []) (hres : fn.resultTypes = #[tb]) (htb : P.underlying tb = some .bool)
    (hspec : s.fn H (ds ++ gs) = { results := [.lit (.bool true)], args := ds, vars := [] }) (hl : laidOutB P = true) (ht : ∀ t, t ∈ fn.params.toList → P.readableRec t = true ∧ t < P.types.size) (hb : Below w.heap.size w W') :
    s.post enc P fn apart fresh handsOn again w args (.bool true) W' := by
  obtain ⟨p, q, hA, hV, hpq, hz, hn⟩ := id hW
  rw [hvars] at hV
  have hq : gs = [] ∧ q = [] := by
    cases gs with
    | nil => exact ⟨rfl, hV⟩
    | cons g gs => exact hV.elim
  obtain ⟨rfl, rfl⟩ := hq
  rw [List.append_nil] at hpq hspec
  subst hpq
  have hlt := hW.lt
  have hargs : ∀ sp : Nat → Bool, (∀ x ∈ before, sp x.block = true) → DataW.TrodAll enc P W' 0 sp true fn.params.toList args.toList ds before := fun sp hsp => trodAll_below hl hb ht hA hlt hsp
  have hr : ∀ (b : Nat) (sp : Nat → Bool) (hd : Bool), DataW.TrodAll enc P W' b sp hd fn.resultTypes.toList ((Value.bool true).resultList fn.resultTypes.size) [.lit (.bool true)] [] := by
    intro b sp hd
    rw [hres]
    exact ⟨[], [], shut_bool htb true, rfl, rfl⟩
  have hold : ∀ x ∈ before, (fun b => decide (b < w.heap.size)) x.block = true := fun x hx => by simpa using hlt x hx
  have hvv : ∀ sp, DataW.TrodVars enc P W' sp s.vars [] [] := fun sp => by rw [hvars]; rfl
  refine ⟨ds, [], before, [], before, [], hW, by simpa [hspec] using hr _ _ _, by simpa [hspec] using hargs _ hold, by simpa [hspec] using hvv _, World.keptBut_mono (fun x hx => ⟨hx, by simpa using hx⟩) (hb.frame (· ∈ before)), fun _ => ?_⟩
  refine ⟨ok_one hres rfl (okWide_bool_mk htb true), [.lit (.bool true)] ++ ds, [], before, ⟨before, [], ?_, hvv _, by simp, ?_, ?_⟩, ?_⟩
  · simpa [hspec] using ChangeShapes.trodAll_append (hargs _ (fun _ _ => rfl)) (hr 0 (fun _ => true) true)
  · intro b off hx
    rw [hb.frozen (p := ⟨b, off, none⟩) (hlt _ hx)]
    exact hz b off hx
  · intro ha; exact hn ha
  · intro x hx _; exact hx
end
end Go.Proofs.Ytdibpeknpmhknaa
namespace Go.Proofs.Ytdibpeknpmhknaa
set_option linter.unusedVariables false
set_option linter.unusedSimpArgs false
set_option maxRecDepth 20000
set_option maxHeartbeats 2000000
open Go
theorem wrap_u64 {x : Int} (h0 : 0 ≤ x) (h1 : x < 18446744073709551616) : IntKind.u64.wrap x = x := by
  simp -implicitDefEqProofs [IntKind.wrap, IntKind.bits, IntKind.signed]
  omega
theorem wrap_i64 {x : Int} (h0 : -9223372036854775808 ≤ x) (h1 : x < 9223372036854775808) : IntKind.i64.wrap x = x := by
  simp -implicitDefEqProofs [IntKind.wrap, IntKind.bits, IntKind.signed]
  omega
theorem wrap_succ {i : Nat} (h : i < 1000000000000) : IntKind.i64.wrap ((i : Int) + 1) = ((i + 1 : Nat) : Int) := by rw [wrap_i64 (by omega) (by omega)]; rfl
@[simp] theorem nn1 (j : Nat) : ((0 : Int) ≤ (j : Int) + 1) = True := eq_true (by omega)
@[simp] theorem np1 (j : Nat) : ((0 : Int) < (j : Int) + 1) = True := eq_true (by omega)
@[simp] theorem ne1 (j : Nat) : (((j : Int) + 1) == 0) = false := beq_eq_false_iff_ne.2 (by omega)
@[simp] theorem nl1 (j : Nat) : ((j : Int) + 1 < 0) = False := eq_false (by omega)
theorem addS {x y : List UInt8} (h : x.length + y.length ≤ 4611686018427387904) : binStr .add x y = some (.str (x ++ y)) := by
  simp only [binStr, h, if_true]
@[simp] theorem wnP_undef (b : Bool) (o : Kt (Option DVal)) : @wnP .undef b o = some .undef := by simp [wnP, wantP, DVal.isB]
@[simp] theorem wnS_undef (b : Bool) (σ : Sto) (o : Kt (Option (DVal × Sto))) : @wnS .undef b σ o = some (.undef, σ) := by simp [wnS, wantS, DVal.isB]
@[simp] theorem wnS_gt (q : Prop) (c : Bool) (σ : Sto) (o : Kt (Option (DVal × Sto))) : @wnS (gv q (.bool c)) true σ o = iteQ (q ∧ c = true) o.f (some (.undef, σ)) := by
  by_cases h : q <;> cases c <;> simp [h, wnS, wantS, DVal.isB]
@[simp] theorem wnS_gf (q : Prop) (c : Bool) (σ : Sto) (o : Kt (Option (DVal × Sto))) : @wnS (gv q (.bool c)) false σ o = iteQ (q ∧ c = false) o.f (some (.undef, σ)) := by
  by_cases h : q <;> cases c <;> simp [h, wnS, wantS, DVal.isB]
section
variable {z : Zs} {sz : Nat} {es : List (List DVal)}
theorem slD_cases (z : Zs) (sz : Nat) (es : List (List DVal)) : (slD z sz es = .nils ∧ es = []) ∨ (slD z sz es = .empt ∧ es = []) ∨ slD z sz es = .slice false 0 sz es ∨ slD z sz es = .slice false 1 sz es := by
  cases z <;> cases es <;> simp [slD]
@[simp] theorem len_slD : lenSlSem [slD z sz es] = some (.int .i64 es.length) := by
  rcases slD_cases z sz es with ⟨h, rfl⟩ | ⟨h, rfl⟩ | h | h <;> rw [h] <;> rfl
@[simp] theorem idx_slD {k : IntKind} {i : Int} : idxSSem sz [slD z sz es, .int k i] = if 0 ≤ i then (es[i.toNat]?).map fun e => .elem e 0 else none := by
  rcases slD_cases z sz es with ⟨h, rfl⟩ | ⟨h, rfl⟩ | h | h <;> rw [h] <;> simp [idxSSem]
@[simp] theorem cells_slD : (slD z sz es).cells = [slD z sz es] := by
  rcases slD_cases z sz es with ⟨h, rfl⟩ | ⟨h, rfl⟩ | h | h <;> rw [h] <;> rfl
@[simp] theorem okCell_slD : (slD z sz es).okCell = true := by
  rcases slD_cases z sz es with ⟨h, rfl⟩ | ⟨h, rfl⟩ | h | h <;> rw [h] <;> rfl
@[simp] theorem okVal_slD : (slD z sz es).okVal = true := by
  rcases slD_cases z sz es with ⟨h, rfl⟩ | ⟨h, rfl⟩ | h | h <;> rw [h] <;> rfl
@[simp] theorem sealCell_slD : (slD z sz es).sealCell = some (slD z sz es) := by
  rcases slD_cases z sz es with ⟨h, rfl⟩ | ⟨h, rfl⟩ | h | h <;> rw [h] <;> rfl
@[simp] theorem sealVal_slD : (slD z sz es).sealVal = some (slD z sz es) := by
  rcases slD_cases z sz es with ⟨h, rfl⟩ | ⟨h, rfl⟩ | h | h <;> rw [h] <;> rfl
@[simp] theorem stale_slD : (slD z sz es).stale = slD z sz es := by
  rcases slD_cases z sz es with ⟨h, rfl⟩ | ⟨h, rfl⟩ | h | h <;> rw [h] <;> rfl
@[simp] theorem handBack_slD {σ : Sto} : (slD z sz es).handBack σ = some (slD z sz es) := by
  rcases slD_cases z sz es with ⟨h, rfl⟩ | ⟨h, rfl⟩ | h | h <;> rw [h] <;> simp [DVal.handBack, DVal.sealVal, DVal.sealCell]
@[simp] theorem import_slD {σ : Sto} : importVal σ (slD z sz es) = (slD z sz es, σ) := by
  rcases slD_cases z sz es with ⟨h, rfl⟩ | ⟨h, rfl⟩ | h | h <;> rw [h] <;> simp [importVal]
def Zs.part (z : Zs) (es : List (List DVal)) : Zs :=
  match es with
  | [] => match z with
    | .lit => .full
    | z => z
  | _ => .full
@[simp] theorem take_slD {k : IntKind} {j : Int} : slcVSem sz false true false [slD z sz es, .int k j] = if 0 ≤ j ∧ j ≤ es.length then some (slD (z.part es) sz (es.take j.toNat)) else none := by
  cases es with
  | nil =>
    by_cases hj : 0 ≤ j ∧ j ≤ 0
    · have : j = 0 := by omega
      subst this
      cases z <;> simp [slD, slcVSem, bounds, Zs.part]
    · have : ¬ (0 ≤ j ∧ j ≤ (([] : List (List DVal)).length : Int)) := by simpa using hj
      cases z <;> simp [slD, slcVSem, bounds, Zs.part, hj]
  | cons e es =>
    have h : ∃ own, own ≤ 1 ∧ slD z sz (e :: es) = .slice false own sz (e :: es) := by
      cases z
      · exact ⟨0, by decide, rfl⟩
      · exact ⟨0, by decide, rfl⟩
      · exact ⟨0, by decide, rfl⟩
      · exact ⟨1, by decide, rfl⟩
    obtain ⟨own, ho, h⟩ := h
    rw [h]
    simp only [slcVSem, bounds, if_true]
    by_cases hj : 0 ≤ j ∧ j ≤ (e :: es).length
    · rw [if_pos hj, if_pos hj]
      have h2 : (if own = 1 then 0 else own) = 0 := by split <;> omega
      simp [Zs.part, slD, h2]
    · rw [if_neg hj, if_neg hj]; rfl
end
abbrev strsD (z : Zs) (l : List (List UInt8)) : DVal := slD z 1 (l.map fun s => [DVal.str s])
theorem drop_get {α : Type} {l : List α} {i : Nat} {x : α} (h : l[i]? = some x) : l.drop i = x :: l.drop (i + 1) := by
  obtain ⟨hi, rfl⟩ := List.getElem?_eq_some_iff.1 h
  exact List.drop_eq_getElem_cons hi
theorem get_some {α : Type} {l : List α} {i : Nat} (h : i < l.length) : ∃ x, l[i]? = some x := ⟨l[i], List.getElem?_eq_getElem h⟩
theorem take_get {α : Type} {l : List α} {i : Nat} {x : α} (h : l[i]? = some x) : l.take (i + 1) = l.take i ++ [x] := by
  obtain ⟨hi, rfl⟩ := List.getElem?_eq_some_iff.1 h
  rw [List.take_add_one, List.getElem?_eq_getElem hi]; rfl
def apd (σ : Sto) (sz : Nat) (es : List (List DVal)) : DVal × Sto :=
  match es with
  | [] => (.nils, σ)
  | e :: es => (.slice false (σ.ntok + 3) sz (e :: es), { σ with ntok := σ.ntok + 1, fr := upd σ.fr σ.ntok ((es.length + 1) * sz) })
theorem app_apd {σ : Sto} {sz own : Nat} {es : List (List DVal)} {r : List DVal} (hl : es.length + 1 ≤ 4294967296) :
    app2Sem false sz (apd σ sz es).2 [(apd σ sz es).1, .slice false own sz [r]] = some ((apd σ sz (es ++ [r])).1, (apd σ sz (es ++ [r])).2) := by
  cases es with
  | nil => simp [apd, app2Sem, appSem, elemsM, elemsOf, DVal.szOk, maxAppend]
  | cons e es =>
    have h1 : es.length + 1 + 1 ≤ maxAppend := by simpa [maxAppend] using hl
    simp [apd, app2Sem, appSem, elemsM, elemsOf, DVal.szOk, h1, upd]
theorem elemsM_of {σ : Sto} {x : DVal} {y : Bool × List (List DVal)} (h : elemsOf x = some y) : elemsM σ x = some y := by
  cases x <;> first | exact h | simp [elemsOf] at h
def frD (sz : Nat) (es : List (List DVal)) : DVal :=
  match es with
  | [] => .nils
  | e :: es => .slice false 2 sz (e :: es)
@[simp] theorem stale_frD {sz : Nat} {es : List (List DVal)} : (frD sz es).stale = slD .nil sz es := by
  cases es <;> rfl
@[simp] theorem okVal_apd {σ : Sto} {sz : Nat} {es : List (List DVal)} : (apd σ sz es).1.okVal = true := by
  cases es <;> simp [apd, DVal.okVal, DVal.okCell]
@[simp] theorem okCell_apd {σ : Sto} {sz : Nat} {es : List (List DVal)} : (apd σ sz es).1.okCell = true := by
  cases es <;> simp [apd, DVal.okCell]
@[simp] theorem cells_apd {σ : Sto} {sz : Nat} {es : List (List DVal)} : (apd σ sz es).1.cells = [(apd σ sz es).1] := by
  cases es <;> simp [apd, DVal.cells]
@[simp] theorem seal_apd {σ : Sto} {sz : Nat} {es : List (List DVal)} : (apd σ sz es).1.sealCell = some (slD .nil sz es) := by
  cases es <;> simp [apd, DVal.sealCell, slD]
@[simp] theorem sealVal_apd {σ : Sto} {sz : Nat} {es : List (List DVal)} : (apd σ sz es).1.sealVal = some (slD .nil sz es) := by
  cases es <;> simp [apd, DVal.sealVal, DVal.sealCell, slD]
@[simp] theorem len_apd {σ : Sto} {sz : Nat} {es : List (List DVal)} : lenSlSem [(apd σ sz es).1] = some (.int .i64 es.length) := by
  cases es <;> simp [apd, lenSlSem, goI]
@[simp] theorem back_apd {σ : Sto} {sz : Nat} {es : List (List DVal)} : (apd σ sz es).1.handBack (apd σ sz es).2 = some (frD sz es) := by
  cases es with
  | nil => rfl
  | cons e es => simp [apd, DVal.handBack, upd, frD]
def arrD (n : Nat) (f : Nat → DVal) : DVal := .agg ((List.range n).map f)
theorem arr_get {n i : Nat} {f : Nat → DVal} (h : i < n) : ((List.range n).map f)[i]? = some (f i) := by simp [h]
theorem arr_set {n i : Nat} {f : Nat → DVal} {v : DVal} (h : i < n) : ((List.range n).map f).take i ++ ([v] ++ ((List.range n).map f).drop (i + 1)) = (List.range n).map (upd f i v) := by
  have e : (List.range n).map (upd f i v) = ((List.range n).map f).set i v := by
    apply List.ext_getElem?
    intro j
    rw [List.getElem?_set]
    by_cases hj : j < n
    · by_cases hij : i = j
      · subst hij; simp [hj, upd]
      · simp [hj, upd, hij, Ne.symm hij]
    · simp [hj]
      intro e; omega
  rw [e, List.set_eq_take_append_cons_drop, if_pos (by simpa using h)]
  rfl
theorem ld_arr {σ : Sto} {id n i : Nat} {f : Nat → DVal} (ho : σ.obj id = arrD n f) (hid : id < σ.nobj) (h : i < n) : ldOSem σ none [.obj id i] = some (f i, σ) := by
  simp only [ldOSem, hid, if_true, ho, arrD, readCells, arr_get h, Option.map_some]
def Sto.put (σ : Sto) (id : Nat) (d : DVal) : Sto := { σ with obj := upd σ.obj id d }
@[simp] theorem Sto.put_obj {σ : Sto} {id : Nat} {d : DVal} : (σ.put id d).obj id = d := by simp [Sto.put, upd]
theorem Sto.put_obj_ne {σ : Sto} {id j : Nat} {d : DVal} (h : j ≠ id) : (σ.put id d).obj j = σ.obj j := by simp [Sto.put, upd, h]
@[simp] theorem Sto.put_nobj {σ : Sto} {id : Nat} {d : DVal} : (σ.put id d).nobj = σ.nobj := rfl
@[simp] theorem Sto.put_ntok {σ : Sto} {id : Nat} {d : DVal} : (σ.put id d).ntok = σ.ntok := rfl
@[simp] theorem Sto.put_fr {σ : Sto} {id : Nat} {d : DVal} : (σ.put id d).fr = σ.fr := rfl
@[simp] theorem Sto.put_put {σ : Sto} {id : Nat} {d e : DVal} : (σ.put id d).put id e = σ.put id e := by simp [Sto.put, upd_upd]
theorem st_arr {σ : Sto} {id n i : Nat} {f : Nat → DVal} {v : DVal} (ho : σ.obj id = arrD n f) (hid : id < σ.nobj) (h : i < n) (hc : v.cells = [v]) (hv : v.okCell = true) :
    stOSem σ 1 [.obj id i, v] = some (.undef, σ.put id (arrD n (upd f i v))) := by
  have hl : i + 1 ≤ n := by omega
  simp only [stOSem, hid, hc, List.length_cons, List.length_nil, List.all_cons, hv, List.all_nil, Bool.and_self, and_self, if_true, ho, arrD, writeCells, List.length_map, List.length_range, hl, arr_set h, Option.map_some]
  rfl
def Sto.new (σ : Sto) (d : DVal) : Sto := { σ with nobj := σ.nobj + 1, obj := upd σ.obj σ.nobj d }
@[simp] theorem Sto.new_obj {σ : Sto} {d : DVal} : (σ.new d).obj σ.nobj = d := by simp [Sto.new, upd]
theorem Sto.new_obj_ne {σ : Sto} {j : Nat} {d : DVal} (h : j < σ.nobj) : (σ.new d).obj j = σ.obj j := by simp [Sto.new, upd]; intro e; omega
@[simp] theorem Sto.new_nobj {σ : Sto} {d : DVal} : (σ.new d).nobj = σ.nobj + 1 := rfl
@[simp] theorem Sto.new_ntok {σ : Sto} {d : DVal} : (σ.new d).ntok = σ.ntok := rfl
@[simp] theorem Sto.new_fr {σ : Sto} {d : DVal} : (σ.new d).fr = σ.fr := rfl
@[simp] theorem Sto.new_put {σ : Sto} {d e : DVal} : (σ.new d).put σ.nobj e = σ.new e := by simp [Sto.new, Sto.put, upd_upd]
theorem ld_obj {σ : Sto} {id off : Nat} {cs : List DVal} (sz : Option Nat) (ho : σ.obj id = .agg cs) (hid : id < σ.nobj) : ldOSem σ sz [.obj id off] = (readCells cs off sz).map fun v => (v, σ) := by
  simp only [ldOSem, hid, if_true, ho]
theorem st_obj {σ : Sto} {id off k : Nat} {cs : List DVal} {v : DVal} (ho : σ.obj id = .agg cs) (hid : id < σ.nobj) (hk : v.cells.length = k) (hv : v.cells.all DVal.okCell = true) :
    stOSem σ k [.obj id off, v] = (writeCells cs off v.cells).map fun cs' => (.undef, σ.put id (.agg cs')) := by
  simp only [stOSem, hid, hk, hv, and_self, if_true, ho]
  rfl
end Go.Proofs.Ytdibpeknpmhknaa
namespace Go.Proofs.Ytdibpeknpmhknaa
set_option linter.unusedVariables false
set_option linter.unusedSimpArgs false
open Go
def Ans {α : Type} (o : Option α) (Q : α → Prop) : Prop := ∃ x, o = some x ∧ Q x
@[simp] theorem ans_some {α : Type} (x : α) (Q : α → Prop) : Ans (some x) Q = Q x := by simp [Ans]
@[simp] theorem ans_none {α : Type} (Q : α → Prop) : Ans none Q = False := by simp [Ans]
@[simp] theorem ans_ite {α : Type} (p : Prop) (a b : Option α) (Q : α → Prop) : Ans (iteQ p a b) Q = ((p → Ans a Q) ∧ (¬ p → Ans b Q)) := by
  by_cases h : p <;> simp [h]
theorem Ans.mono {α : Type} {o : Option α} {Q R : α → Prop} (h : Ans o Q) (hq : ∀ x, Q x → R x) : Ans o R := by
  obtain ⟨x, h1, h2⟩ := h
  exact ⟨x, h1, hq x h2⟩
def stepR (l : Nat) (f : List DVal → Sto → Option Out) (m : Nat) (R : Out → Prop) : Out → Prop
  | .next i vs σ => if i = l then Ans (iterJ l f m vs σ) R else R (.next i vs σ)
  | o => R o
@[simp] theorem stepR_done (l : Nat) (f : List DVal → Sto → Option Out) (m : Nat) (R : Out → Prop) (v : DVal) (σ : Sto) : stepR l f m R (.done v σ) = R (.done v σ) := rfl
@[simp] theorem stepR_next (l i : Nat) (f : List DVal → Sto → Option Out) (m : Nat) (R : Out → Prop) (vs : List DVal) (σ : Sto) : stepR l f m R (.next i vs σ) = if i = l then Ans (iterJ l f m vs σ) R else R (.next i vs σ) := rfl
def joinR (l : Nat) (k : List DVal → Sto → Option Out) (R : Out → Prop) : Out → Prop
  | .next i vs σ => if i = l then Ans (k vs σ) R else R (.next i vs σ)
  | o => R o
@[simp] theorem joinR_done (l : Nat) (k : List DVal → Sto → Option Out) (R : Out → Prop) (v : DVal) (σ : Sto) : joinR l k R (.done v σ) = R (.done v σ) := rfl
@[simp] theorem joinR_next (l i : Nat) (k : List DVal → Sto → Option Out) (R : Out → Prop) (vs : List DVal) (σ : Sto) : joinR l k R (.next i vs σ) = if i = l then Ans (k vs σ) R else R (.next i vs σ) := rfl
def backR (Q : DVal → Prop) : Out → Prop
  | .done v σ => Ans (v.handBack σ) Q
  | _ => False
@[simp] theorem backR_done (Q : DVal → Prop) (v : DVal) (σ : Sto) : backR Q (.done v σ) = Ans (v.handBack σ) Q := rfl
@[simp] theorem backR_next (Q : DVal → Prop) (i : Nat) (vs : List DVal) (σ : Sto) : backR Q (.next i vs σ) = False := rfl
def backI (Q : DVal → Sto → Prop) : Out → Prop
  | .done v σ => Q v σ
  | _ => False
@[simp] theorem backI_done (Q : DVal → Sto → Prop) (v : DVal) (σ : Sto) : backI Q (.done v σ) = Q v σ := rfl
@[simp] theorem backI_next (Q : DVal → Sto → Prop) (i : Nat) (vs : List DVal) (σ : Sto) : backI Q (.next i vs σ) = False := rfl
def isB (Q : Bool → Prop) (d : DVal) : Prop := ∃ b, d = .bool b ∧ Q b
@[simp] theorem isB_bool (Q : Bool → Prop) (b : Bool) : isB Q (.bool b) = Q b := by simp [isB]
def isI (Q : Int → Prop) (d : DVal) : Prop := ∃ i, d = .int .i64 i ∧ Q i
@[simp] theorem isI_int (Q : Int → Prop) (i : Int) : isI Q (.int .i64 i) = Q i := by simp [isI]
theorem Ans.bool {o : Option DVal} {Q : Bool → Prop} (h : Ans o (isB Q)) : ∃ b, o = some (.bool b) ∧ Q b := by
  obtain ⟨d, h1, b, rfl, h2⟩ := h
  exact ⟨b, h1, h2⟩
theorem Ans.int {o : Option DVal} {Q : Int → Prop} (h : Ans o (isI Q)) : ∃ i, o = some (.int .i64 i) ∧ Q i := by
  obtain ⟨d, h1, i, rfl, h2⟩ := h
  exact ⟨i, h1, h2⟩
def doneB (Q : Bool → Prop) : Out → Prop
  | .done (.bool b) _ => Q b
  | _ => False
@[simp] theorem doneB_bool (Q : Bool → Prop) (b : Bool) (σ : Sto) : doneB Q (.done (.bool b) σ) = Q b := rfl
def doneI (Q : Int → Prop) : Out → Prop
  | .done (.int .i64 i) _ => Q i
  | _ => False
@[simp] theorem doneI_int (Q : Int → Prop) (i : Int) (σ : Sto) : doneI Q (.done (.int .i64 i) σ) = Q i := rfl
theorem Ans.doneB {o : Option Out} {Q : Bool → Prop} (h : Ans o (doneB Q)) : ∃ b σ, o = some (.done (.bool b) σ) ∧ Q b := by
  obtain ⟨x, rfl, h2⟩ := h
  cases x with
  | done v σ => cases v <;> simp only [Go.Proofs.Ytdibpeknpmhknaa.doneB] at h2; exact ⟨_, σ, rfl, h2⟩
  | next i vs σ => exact h2.elim
theorem Ans.doneI {o : Option Out} {Q : Int → Prop} (h : Ans o (doneI Q)) : ∃ i σ, o = some (.done (.int .i64 i) σ) ∧ Q i := by
  obtain ⟨x, rfl, h2⟩ := h
  cases x with
  | done v σ =>
    cases v with
    | int k i =>
      cases k <;> first | exact ⟨_, σ, rfl, h2⟩ | exact h2.elim
    | _ => exact h2.elim
  | next i vs σ => exact h2.elim
def any {α : Type} : α → Prop := fun _ => True
@[simp] theorem any_eq {α : Type} (x : α) : any x = True := rfl
end Go.Proofs.Ytdibpeknpmhknaa
namespace Go.Proofs.Ytdibpeknpmhknaa
set_option linter.unusedVariables false
set_option linter.unusedSimpArgs false
open Go
abbrev Bs := List UInt8
structure Sl (α : Type) where
  z : Zs
  l : List α
structure SetV where
  w : Nat → Nat
  lt : ∀ i, w i < 18446744073709551616
def SetV.row (s : SetV) : List DVal := [.int .u64 (s.w 0), .int .u64 (s.w 1), .int .u64 (s.w 2), .int .u64 (s.w 3)]
structure LvV where
  s : Int
  c : Nat
  lt : c < 18446744073709551616
def LvV.row (l : LvV) : List DVal := [.int .i64 l.s, .int .u64 l.c]
structure CtxV where
  user : Int
  role : Int
  type : Int
  lo : LvV
  hi : LvV
def CtxV.row (c : CtxV) : List DVal := [.int .i64 c.user, .int .i64 c.role, .int .i64 c.type] ++ (c.lo.row ++ c.hi.row)
structure ClassV where
  name : Bs
  perms : Sl Bs
def strs (s : Sl Bs) : DVal := slD s.z 1 (s.l.map fun x => [DVal.str x])
def ClassV.row (c : ClassV) : List DVal := [.str c.name, strs c.perms]
structure TypeV where
  name : Bs
  aliases : Sl Bs
  perm : Bool
def TypeV.row (t : TypeV) : List DVal := [.str t.name, strs t.aliases, .bool t.perm]
structure AttrV where
  name : Bs
  types : SetV
def AttrV.row (a : AttrV) : List DVal := .str a.name :: a.types.row
structure RoleV where
  name : Bs
  types : SetV
  next : SetV
def RoleV.row (r : RoleV) : List DVal := .str r.name :: (r.types.row ++ r.next.row)
structure UserV where
  name : Bs
  roles : SetV
  dflt : LvV
  lo : LvV
  hi : LvV
def UserV.row (u : UserV) : List DVal := .str u.name :: (u.roles.row ++ (u.dflt.row ++ (u.lo.row ++ u.hi.row)))
structure BoolV where
  name : Bs
  value : Bool
def BoolV.row (b : BoolV) : List DVal := [.str b.name, .bool b.value]
structure RuleV where
  kind : Int
  source : SetV
  target : SetV
  self : Bool
  cls : Int
  perms : Nat
  cond : Int
  lt : perms < 4294967296
def RuleV.row (r : RuleV) : List DVal := .int .i64 r.kind :: (r.source.row ++ (r.target.row ++ [.bool r.self, .int .i64 r.cls, .int .u32 r.perms, .int .i64 r.cond]))
structure TransV where
  kind : Int
  source : SetV
  target : SetV
  cls : Int
  name : Bs
  result : Int
  cond : Int
def TransV.row (r : TransV) : List DVal := .int .i64 r.kind :: (r.source.row ++ (r.target.row ++ [.int .i64 r.cls, .str r.name, .int .i64 r.result, .int .i64 r.cond]))
structure RoleTransV where
  roles : SetV
  types : SetV
  cls : Int
  result : Int
def RoleTransV.row (r : RoleTransV) : List DVal := r.roles.row ++ (r.types.row ++ [.int .i64 r.cls, .int .i64 r.result])
structure RangeTransV where
  source : SetV
  target : SetV
  cls : Int
  lo : LvV
  hi : LvV
def RangeTransV.row (r : RangeTransV) : List DVal := r.source.row ++ (r.target.row ++ (.int .i64 r.cls :: (r.lo.row ++ r.hi.row)))
inductive ExprV where
  | mk (op a rel b : Int) (names : Sl Bs) (set : SetV) (kz : Zs) (kids : List ExprV)
mutual
def ExprV.row : ExprV → List DVal
  | .mk op a rel b names set kz kids => [.int .i64 op, .int .i64 a, .int .i64 rel, .int .i64 b, strs names] ++ (set.row ++ [slD kz 10 (ExprV.rows kids)])
def ExprV.rows : List ExprV → List (List DVal)
  | [] => []
  | e :: es => e.row :: ExprV.rows es
end
theorem ExprV.rows_map : ∀ (l : List ExprV), ExprV.rows l = l.map ExprV.row
  | [] => by simp [ExprV.rows]
  | e :: es => by simp [ExprV.rows, ExprV.rows_map es]
theorem ExprV.row_mk (op a rel b : Int) (names : Sl Bs) (set : SetV) (kz : Zs) (kids : List ExprV) :
    (ExprV.mk op a rel b names set kz kids).row = [.int .i64 op, .int .i64 a, .int .i64 rel, .int .i64 b, strs names] ++ (set.row ++ [slD kz 10 (kids.map ExprV.row)]) := by
  rw [ExprV.row, ExprV.rows_map]
structure ConstrV where
  cls : Int
  perms : Nat
  validate : Bool
  expr : ExprV
  lt : perms < 4294967296
def ConstrV.row (c : ConstrV) : List DVal := [.int .i64 c.cls, .int .u32 c.perms, .bool c.validate] ++ c.expr.row
structure SidV where
  name : Bs
  ctx : CtxV
def SidV.row (s : SidV) : List DVal := .str s.name :: s.ctx.row
structure FileV where
  pattern : Bs
  kind : Int
  ctx : CtxV
def FileV.row (f : FileV) : List DVal := [.str f.pattern, .int .i64 f.kind] ++ f.ctx.row
structure AssertV where
  name : Bs
  kind : Int
  source : SetV
  target : SetV
def AssertV.row (a : AssertV) : List DVal := [.str a.name, .int .i64 a.kind] ++ (a.source.row ++ a.target.row)
structure PolV where
  classes : Sl ClassV
  types : Sl TypeV
  attrs : Sl AttrV
  roles : Sl RoleV
  users : Sl UserV
  bools : Sl BoolV
  sens : Sl Bs
  cats : Sl Bs
  conds : Sl ExprV
  rules : Sl RuleV
  trans : Sl TransV
  roleTrans : Sl RoleTransV
  ranges : Sl RangeTransV
  constrs : Sl ConstrV
  sids : Sl SidV
  files : Sl FileV
  asserts : Sl AssertV
def slOf {α : Type} (n : Nat) (f : α → List DVal) (s : Sl α) : DVal := slD s.z n (s.l.map f)
def PolV.row (p : PolV) : List DVal :=
  [slOf 2 ClassV.row p.classes, slOf 3 TypeV.row p.types, slOf 5 AttrV.row p.attrs, slOf 9 RoleV.row p.roles, slOf 11 UserV.row p.users, slOf 2 BoolV.row p.bools, strs p.sens, strs p.cats, slOf 10 ExprV.row p.conds, slOf 13 RuleV.row p.rules, slOf 13 TransV.row p.trans, slOf 10 RoleTransV.row p.roleTrans, slOf 13 RangeTransV.row p.ranges, slOf 13 ConstrV.row p.constrs, slOf 8 SidV.row p.sids, slOf 9 FileV.row p.files, slOf 10 AssertV.row p.asserts]
def PolV.d (p : PolV) : DVal := .agg p.row
section
variable {α : Type} {f : α → List DVal} {n : Nat} {s : Sl α}
@[simp] theorem len_slOf : lenSlSem [slOf n f s] = some (.int .i64 s.l.length) := by simp [slOf]
@[simp] theorem idx_slOf {k : IntKind} {i : Int} : idxSSem n [slOf n f s, .int k i] = if 0 ≤ i then (s.l[i.toNat]?).map fun e => .elem (f e) 0 else none := by
  simp only [slOf, idx_slD]
  split
  · simp only [List.getElem?_map, Option.map_map, Function.comp_def]
  · rfl
@[simp] theorem cells_slOf : (slOf n f s).cells = [slOf n f s] := by simp [slOf]
@[simp] theorem okCell_slOf : (slOf n f s).okCell = true := by simp [slOf]
@[simp] theorem okVal_slOf : (slOf n f s).okVal = true := by simp [slOf]
@[simp] theorem sealCell_slOf : (slOf n f s).sealCell = some (slOf n f s) := by simp [slOf]
@[simp] theorem sealVal_slOf : (slOf n f s).sealVal = some (slOf n f s) := by simp [slOf]
@[simp] theorem stale_slOf : (slOf n f s).stale = slOf n f s := by simp [slOf]
@[simp] theorem len_strs {s : Sl Bs} : lenSlSem [strs s] = some (.int .i64 s.l.length) := by simp [strs]
@[simp] theorem idx_strs {s : Sl Bs} {k : IntKind} {i : Int} : idxSSem 1 [strs s, .int k i] = if 0 ≤ i then (s.l[i.toNat]?).map fun e => .elem [.str e] 0 else none := by
  simp only [strs, idx_slD]
  split
  · simp only [List.getElem?_map, Option.map_map, Function.comp_def]
  · rfl
@[simp] theorem cells_strs {s : Sl Bs} : (strs s).cells = [strs s] := by simp [strs]
@[simp] theorem okCell_strs {s : Sl Bs} : (strs s).okCell = true := by simp [strs]
@[simp] theorem okVal_strs {s : Sl Bs} : (strs s).okVal = true := by simp [strs]
@[simp] theorem sealCell_strs {s : Sl Bs} : (strs s).sealCell = some (strs s) := by simp [strs]
@[simp] theorem sealVal_strs {s : Sl Bs} : (strs s).sealVal = some (strs s) := by simp [strs]
@[simp] theorem stale_strs {s : Sl Bs} : (strs s).stale = strs s := by simp [strs]
end
section
variable {p : PolV}
@[simp] theorem cells_pol : p.d.cells = p.row := rfl
@[simp] theorem okVal_pol : p.d.okVal = true := by simp [PolV.d, PolV.row, DVal.okVal]
@[simp] theorem sealVal_pol : p.d.sealVal = some p.d := by simp [PolV.d, PolV.row, DVal.sealVal, sealCells]
@[simp] theorem stale_pol : p.d.stale = p.d := rfl
@[simp] theorem fld_classes : fldSem 0 none [p.d] = some (slOf 2 ClassV.row p.classes) := rfl
@[simp] theorem fld_types : fldSem 1 none [p.d] = some (slOf 3 TypeV.row p.types) := rfl
@[simp] theorem fld_attrs : fldSem 2 none [p.d] = some (slOf 5 AttrV.row p.attrs) := rfl
@[simp] theorem fld_roles : fldSem 3 none [p.d] = some (slOf 9 RoleV.row p.roles) := rfl
@[simp] theorem fld_users : fldSem 4 none [p.d] = some (slOf 11 UserV.row p.users) := rfl
@[simp] theorem fld_bools : fldSem 5 none [p.d] = some (slOf 2 BoolV.row p.bools) := rfl
@[simp] theorem fld_sens : fldSem 6 none [p.d] = some (strs p.sens) := rfl
@[simp] theorem fld_cats : fldSem 7 none [p.d] = some (strs p.cats) := rfl
@[simp] theorem fld_conds : fldSem 8 none [p.d] = some (slOf 10 ExprV.row p.conds) := rfl
@[simp] theorem fld_rules : fldSem 9 none [p.d] = some (slOf 13 RuleV.row p.rules) := rfl
@[simp] theorem fld_trans : fldSem 10 none [p.d] = some (slOf 13 TransV.row p.trans) := rfl
@[simp] theorem fld_roleTrans : fldSem 11 none [p.d] = some (slOf 10 RoleTransV.row p.roleTrans) := rfl
@[simp] theorem fld_ranges : fldSem 12 none [p.d] = some (slOf 13 RangeTransV.row p.ranges) := rfl
@[simp] theorem fld_constrs : fldSem 13 none [p.d] = some (slOf 13 ConstrV.row p.constrs) := rfl
@[simp] theorem fld_sids : fldSem 14 none [p.d] = some (slOf 8 SidV.row p.sids) := rfl
@[simp] theorem fld_files : fldSem 15 none [p.d] = some (slOf 9 FileV.row p.files) := rfl
@[simp] theorem fld_asserts : fldSem 16 none [p.d] = some (slOf 10 AssertV.row p.asserts) := rfl
end
end Go.Proofs.Ytdibpeknpmhknaa
namespace Go.Proofs.Ytdibpeknpmhknaa
set_option linter.unusedVariables false
open Go
def SetV.d (s : SetV) : DVal := .agg s.row
def rngD (lo hi : LvV) : DVal := .agg (lo.row ++ hi.row)
def LvV.d (x : LvV) : DVal := .agg x.row
def CtxV.d (x : CtxV) : DVal := .agg x.row
def ClassV.d (x : ClassV) : DVal := .agg x.row
def TypeV.d (x : TypeV) : DVal := .agg x.row
def AttrV.d (x : AttrV) : DVal := .agg x.row
def RoleV.d (x : RoleV) : DVal := .agg x.row
def UserV.d (x : UserV) : DVal := .agg x.row
def BoolV.d (x : BoolV) : DVal := .agg x.row
def RuleV.d (x : RuleV) : DVal := .agg x.row
def TransV.d (x : TransV) : DVal := .agg x.row
def RoleTransV.d (x : RoleTransV) : DVal := .agg x.row
def RangeTransV.d (x : RangeTransV) : DVal := .agg x.row
def ConstrV.d (x : ConstrV) : DVal := .agg x.row
def SidV.d (x : SidV) : DVal := .agg x.row
def FileV.d (x : FileV) : DVal := .agg x.row
def AssertV.d (x : AssertV) : DVal := .agg x.row
def ExprV.d (x : ExprV) : DVal := .agg x.row
@[simp high] theorem SetV_jbox (x : SetV) : jboxSem [x.d] = some x.d := rfl
@[simp high] theorem SetV_seal (x : SetV) : x.d.sealVal = some x.d := rfl
@[simp high] theorem SetV_okVal (x : SetV) : x.d.okVal = true := rfl
@[simp high] theorem SetV_stale (x : SetV) : x.d.stale = x.d := rfl
@[simp high] theorem SetV_back (x : SetV) (σ : Sto) : x.d.handBack σ = some x.d := by rw [show x.d.handBack σ = x.d.sealVal.or (x.d.snapVal σ) from rfl, SetV_seal x]; rfl
@[simp high] theorem SetV_whole (x : SetV) : fldSem 0 (some 4) [x.d] = some x.d := rfl
@[simp high] theorem SetV_el (x : SetV) : ldESem (some 4) [.elem x.row 0] = some x.d := rfl
@[simp high] theorem SetV_wr (x : SetV) (c0 c1 c2 c3 : DVal) : jwrSem 0 4 [.agg [c0, c1, c2, c3], x.d] = some x.d := rfl
@[simp high] theorem SetV_wr2 (x y : SetV) : jwrSem 0 4 [x.d, y.d] = some y.d := rfl
@[simp high] theorem LvV_jbox (x : LvV) : jboxSem [x.d] = some x.d := rfl
@[simp high] theorem LvV_seal (x : LvV) : x.d.sealVal = some x.d := rfl
@[simp high] theorem LvV_okVal (x : LvV) : x.d.okVal = true := rfl
@[simp high] theorem LvV_stale (x : LvV) : x.d.stale = x.d := rfl
@[simp high] theorem LvV_back (x : LvV) (σ : Sto) : x.d.handBack σ = some x.d := by rw [show x.d.handBack σ = x.d.sealVal.or (x.d.snapVal σ) from rfl, LvV_seal x]; rfl
@[simp high] theorem LvV_whole (x : LvV) : fldSem 0 (some 2) [x.d] = some x.d := rfl
@[simp high] theorem LvV_el (x : LvV) : ldESem (some 2) [.elem x.row 0] = some x.d := rfl
@[simp high] theorem LvV_wr (x : LvV) (c0 c1 : DVal) : jwrSem 0 2 [.agg [c0, c1], x.d] = some x.d := rfl
@[simp high] theorem LvV_wr2 (x y : LvV) : jwrSem 0 2 [x.d, y.d] = some y.d := rfl
@[simp high] theorem LvV_f_s (x : LvV) : fldSem 0 none [x.d] = some (.int .i64 x.s) := rfl
@[simp high] theorem LvV_e_s (x : LvV) : ldESem none [.elem x.row 0] = some (.int .i64 x.s) := rfl
@[simp high] theorem LvV_f_c (x : LvV) : fldSem 1 none [x.d] = some (.int .u64 x.c) := rfl
@[simp high] theorem LvV_e_c (x : LvV) : ldESem none [.elem x.row 1] = some (.int .u64 x.c) := rfl
@[simp high] theorem CtxV_jbox (x : CtxV) : jboxSem [x.d] = some x.d := rfl
@[simp high] theorem CtxV_seal (x : CtxV) : x.d.sealVal = some x.d := rfl
@[simp high] theorem CtxV_okVal (x : CtxV) : x.d.okVal = true := rfl
@[simp high] theorem CtxV_stale (x : CtxV) : x.d.stale = x.d := rfl
@[simp high] theorem CtxV_back (x : CtxV) (σ : Sto) : x.d.handBack σ = some x.d := by rw [show x.d.handBack σ = x.d.sealVal.or (x.d.snapVal σ) from rfl, CtxV_seal x]; rfl
@[simp high] theorem CtxV_whole (x : CtxV) : fldSem 0 (some 7) [x.d] = some x.d := rfl
@[simp high] theorem CtxV_el (x : CtxV) : ldESem (some 7) [.elem x.row 0] = some x.d := rfl
@[simp high] theorem CtxV_wr (x : CtxV) (c0 c1 c2 c3 c4 c5 c6 : DVal) : jwrSem 0 7 [.agg [c0, c1, c2, c3, c4, c5, c6], x.d] = some x.d := rfl
@[simp high] theorem CtxV_wr2 (x y : CtxV) : jwrSem 0 7 [x.d, y.d] = some y.d := rfl
@[simp high] theorem CtxV_f_user (x : CtxV) : fldSem 0 none [x.d] = some (.int .i64 x.user) := rfl
@[simp high] theorem CtxV_e_user (x : CtxV) : ldESem none [.elem x.row 0] = some (.int .i64 x.user) := rfl
@[simp high] theorem CtxV_f_role (x : CtxV) : fldSem 1 none [x.d] = some (.int .i64 x.role) := rfl
@[simp high] theorem CtxV_e_role (x : CtxV) : ldESem none [.elem x.row 1] = some (.int .i64 x.role) := rfl
@[simp high] theorem CtxV_f_type (x : CtxV) : fldSem 2 none [x.d] = some (.int .i64 x.type) := rfl
@[simp high] theorem CtxV_e_type (x : CtxV) : ldESem none [.elem x.row 2] = some (.int .i64 x.type) := rfl
@[simp high] theorem CtxV_f_lo (x : CtxV) : fldSem 3 (some 2) [x.d] = some x.lo.d := rfl
@[simp high] theorem CtxV_e_lo (x : CtxV) : ldESem (some 2) [.elem x.row 3] = some x.lo.d := rfl
@[simp high] theorem CtxV_f_rng (x : CtxV) : fldSem 3 (some 4) [x.d] = some (rngD x.lo x.hi) := rfl
@[simp high] theorem CtxV_e_rng (x : CtxV) : ldESem (some 4) [.elem x.row 3] = some (rngD x.lo x.hi) := rfl
@[simp high] theorem CtxV_f_hi (x : CtxV) : fldSem 5 (some 2) [x.d] = some x.hi.d := rfl
@[simp high] theorem CtxV_e_hi (x : CtxV) : ldESem (some 2) [.elem x.row 5] = some x.hi.d := rfl
@[simp high] theorem ClassV_jbox (x : ClassV) : jboxSem [x.d] = some x.d := by simp [jboxSem, DVal.cells, ClassV.d, ClassV.row]
@[simp high] theorem ClassV_seal (x : ClassV) : x.d.sealVal = some x.d := by simp [DVal.sealVal, sealCells, ClassV.d, ClassV.row]
@[simp high] theorem ClassV_okVal (x : ClassV) : x.d.okVal = true := by simp [DVal.okVal, ClassV.d, ClassV.row]
@[simp high] theorem ClassV_stale (x : ClassV) : x.d.stale = x.d := rfl
@[simp high] theorem ClassV_back (x : ClassV) (σ : Sto) : x.d.handBack σ = some x.d := by rw [show x.d.handBack σ = x.d.sealVal.or (x.d.snapVal σ) from rfl, ClassV_seal x]; rfl
@[simp high] theorem ClassV_whole (x : ClassV) : fldSem 0 (some 2) [x.d] = some x.d := rfl
@[simp high] theorem ClassV_el (x : ClassV) : ldESem (some 2) [.elem x.row 0] = some x.d := rfl
@[simp high] theorem ClassV_wr (x : ClassV) (c0 c1 : DVal) : jwrSem 0 2 [.agg [c0, c1], x.d] = some x.d := by simp [jwrSem, DVal.cells, writeCells, ClassV.d, ClassV.row]
@[simp high] theorem ClassV_wr2 (x y : ClassV) : jwrSem 0 2 [x.d, y.d] = some y.d := by simp [jwrSem, DVal.cells, writeCells, ClassV.d, ClassV.row]
@[simp high] theorem ClassV_f_name (x : ClassV) : fldSem 0 none [x.d] = some (.str x.name) := rfl
@[simp high] theorem ClassV_e_name (x : ClassV) : ldESem none [.elem x.row 0] = some (.str x.name) := rfl
@[simp high] theorem ClassV_f_perms (x : ClassV) : fldSem 1 none [x.d] = some (strs x.perms) := rfl
@[simp high] theorem ClassV_e_perms (x : ClassV) : ldESem none [.elem x.row 1] = some (strs x.perms) := rfl
@[simp high] theorem TypeV_jbox (x : TypeV) : jboxSem [x.d] = some x.d := by simp [jboxSem, DVal.cells, TypeV.d, TypeV.row]
@[simp high] theorem TypeV_seal (x : TypeV) : x.d.sealVal = some x.d := by simp [DVal.sealVal, sealCells, TypeV.d, TypeV.row]
@[simp high] theorem TypeV_okVal (x : TypeV) : x.d.okVal = true := by simp [DVal.okVal, TypeV.d, TypeV.row]
@[simp high] theorem TypeV_stale (x : TypeV) : x.d.stale = x.d := rfl
@[simp high] theorem TypeV_back (x : TypeV) (σ : Sto) : x.d.handBack σ = some x.d := by rw [show x.d.handBack σ = x.d.sealVal.or (x.d.snapVal σ) from rfl, TypeV_seal x]; rfl
@[simp high] theorem TypeV_whole (x : TypeV) : fldSem 0 (some 3) [x.d] = some x.d := rfl
@[simp high] theorem TypeV_el (x : TypeV) : ldESem (some 3) [.elem x.row 0] = some x.d := rfl
@[simp high] theorem TypeV_wr (x : TypeV) (c0 c1 c2 : DVal) : jwrSem 0 3 [.agg [c0, c1, c2], x.d] = some x.d := by simp [jwrSem, DVal.cells, writeCells, TypeV.d, TypeV.row]
@[simp high] theorem TypeV_wr2 (x y : TypeV) : jwrSem 0 3 [x.d, y.d] = some y.d := by simp [jwrSem, DVal.cells, writeCells, TypeV.d, TypeV.row]
@[simp high] theorem TypeV_f_name (x : TypeV) : fldSem 0 none [x.d] = some (.str x.name) := rfl
@[simp high] theorem TypeV_e_name (x : TypeV) : ldESem none [.elem x.row 0] = some (.str x.name) := rfl
@[simp high] theorem TypeV_f_aliases (x : TypeV) : fldSem 1 none [x.d] = some (strs x.aliases) := rfl
@[simp high] theorem TypeV_e_aliases (x : TypeV) : ldESem none [.elem x.row 1] = some (strs x.aliases) := rfl
@[simp high] theorem TypeV_f_perm (x : TypeV) : fldSem 2 none [x.d] = some (.bool x.perm) := rfl
@[simp high] theorem TypeV_e_perm (x : TypeV) : ldESem none [.elem x.row 2] = some (.bool x.perm) := rfl
@[simp high] theorem AttrV_jbox (x : AttrV) : jboxSem [x.d] = some x.d := rfl
@[simp high] theorem AttrV_seal (x : AttrV) : x.d.sealVal = some x.d := rfl
@[simp high] theorem AttrV_okVal (x : AttrV) : x.d.okVal = true := rfl
@[simp high] theorem AttrV_stale (x : AttrV) : x.d.stale = x.d := rfl
@[simp high] theorem AttrV_back (x : AttrV) (σ : Sto) : x.d.handBack σ = some x.d := by rw [show x.d.handBack σ = x.d.sealVal.or (x.d.snapVal σ) from rfl, AttrV_seal x]; rfl
@[simp high] theorem AttrV_whole (x : AttrV) : fldSem 0 (some 5) [x.d] = some x.d := rfl
@[simp high] theorem AttrV_el (x : AttrV) : ldESem (some 5) [.elem x.row 0] = some x.d := rfl
@[simp high] theorem AttrV_wr (x : AttrV) (c0 c1 c2 c3 c4 : DVal) : jwrSem 0 5 [.agg [c0, c1, c2, c3, c4], x.d] = some x.d := rfl
@[simp high] theorem AttrV_wr2 (x y : AttrV) : jwrSem 0 5 [x.d, y.d] = some y.d := rfl
@[simp high] theorem AttrV_f_name (x : AttrV) : fldSem 0 none [x.d] = some (.str x.name) := rfl
@[simp high] theorem AttrV_e_name (x : AttrV) : ldESem none [.elem x.row 0] = some (.str x.name) := rfl
@[simp high] theorem AttrV_f_types (x : AttrV) : fldSem 1 (some 4) [x.d] = some x.types.d := rfl
@[simp high] theorem AttrV_e_types (x : AttrV) : ldESem (some 4) [.elem x.row 1] = some x.types.d := rfl
@[simp high] theorem RoleV_jbox (x : RoleV) : jboxSem [x.d] = some x.d := rfl
@[simp high] theorem RoleV_seal (x : RoleV) : x.d.sealVal = some x.d := rfl
@[simp high] theorem RoleV_okVal (x : RoleV) : x.d.okVal = true := rfl
@[simp high] theorem RoleV_stale (x : RoleV) : x.d.stale = x.d := rfl
@[simp high] theorem RoleV_back (x : RoleV) (σ : Sto) : x.d.handBack σ = some x.d := by rw [show x.d.handBack σ = x.d.sealVal.or (x.d.snapVal σ) from rfl, RoleV_seal x]; rfl
@[simp high] theorem RoleV_whole (x : RoleV) : fldSem 0 (some 9) [x.d] = some x.d := rfl
@[simp high] theorem RoleV_el (x : RoleV) : ldESem (some 9) [.elem x.row 0] = some x.d := rfl
@[simp high] theorem RoleV_wr (x : RoleV) (c0 c1 c2 c3 c4 c5 c6 c7 c8 : DVal) : jwrSem 0 9 [.agg [c0, c1, c2, c3, c4, c5, c6, c7, c8], x.d] = some x.d := rfl
@[simp high] theorem RoleV_wr2 (x y : RoleV) : jwrSem 0 9 [x.d, y.d] = some y.d := rfl
@[simp high] theorem RoleV_f_name (x : RoleV) : fldSem 0 none [x.d] = some (.str x.name) := rfl
@[simp high] theorem RoleV_e_name (x : RoleV) : ldESem none [.elem x.row 0] = some (.str x.name) := rfl
@[simp high] theorem RoleV_f_types (x : RoleV) : fldSem 1 (some 4) [x.d] = some x.types.d := rfl
@[simp high] theorem RoleV_e_types (x : RoleV) : ldESem (some 4) [.elem x.row 1] = some x.types.d := rfl
@[simp high] theorem RoleV_f_next (x : RoleV) : fldSem 5 (some 4) [x.d] = some x.next.d := rfl
@[simp high] theorem RoleV_e_next (x : RoleV) : ldESem (some 4) [.elem x.row 5] = some x.next.d := rfl
@[simp high] theorem UserV_jbox (x : UserV) : jboxSem [x.d] = some x.d := rfl
@[simp high] theorem UserV_seal (x : UserV) : x.d.sealVal = some x.d := rfl
@[simp high] theorem UserV_okVal (x : UserV) : x.d.okVal = true := rfl
@[simp high] theorem UserV_stale (x : UserV) : x.d.stale = x.d := rfl
@[simp high] theorem UserV_back (x : UserV) (σ : Sto) : x.d.handBack σ = some x.d := by rw [show x.d.handBack σ = x.d.sealVal.or (x.d.snapVal σ) from rfl, UserV_seal x]; rfl
@[simp high] theorem UserV_whole (x : UserV) : fldSem 0 (some 11) [x.d] = some x.d := rfl
@[simp high] theorem UserV_el (x : UserV) : ldESem (some 11) [.elem x.row 0] = some x.d := rfl
@[simp high] theorem UserV_wr (x : UserV) (c0 c1 c2 c3 c4 c5 c6 c7 c8 c9 c10 : DVal) : jwrSem 0 11 [.agg [c0, c1, c2, c3, c4, c5, c6, c7, c8, c9, c10], x.d] = some x.d := rfl
@[simp high] theorem UserV_wr2 (x y : UserV) : jwrSem 0 11 [x.d, y.d] = some y.d := rfl
@[simp high] theorem UserV_f_name (x : UserV) : fldSem 0 none [x.d] = some (.str x.name) := rfl
@[simp high] theorem UserV_e_name (x : UserV) : ldESem none [.elem x.row 0] = some (.str x.name) := rfl
@[simp high] theorem UserV_f_roles (x : UserV) : fldSem 1 (some 4) [x.d] = some x.roles.d := rfl
@[simp high] theorem UserV_e_roles (x : UserV) : ldESem (some 4) [.elem x.row 1] = some x.roles.d := rfl
@[simp high] theorem UserV_f_dflt (x : UserV) : fldSem 5 (some 2) [x.d] = some x.dflt.d := rfl
@[simp high] theorem UserV_e_dflt (x : UserV) : ldESem (some 2) [.elem x.row 5] = some x.dflt.d := rfl
@[simp high] theorem UserV_f_lo (x : UserV) : fldSem 7 (some 2) [x.d] = some x.lo.d := rfl
@[simp high] theorem UserV_e_lo (x : UserV) : ldESem (some 2) [.elem x.row 7] = some x.lo.d := rfl
@[simp high] theorem UserV_f_rng (x : UserV) : fldSem 7 (some 4) [x.d] = some (rngD x.lo x.hi) := rfl
@[simp high] theorem UserV_e_rng (x : UserV) : ldESem (some 4) [.elem x.row 7] = some (rngD x.lo x.hi) := rfl
@[simp high] theorem UserV_f_hi (x : UserV) : fldSem 9 (some 2) [x.d] = some x.hi.d := rfl
@[simp high] theorem UserV_e_hi (x : UserV) : ldESem (some 2) [.elem x.row 9] = some x.hi.d := rfl
@[simp high] theorem BoolV_jbox (x : BoolV) : jboxSem [x.d] = some x.d := rfl
@[simp high] theorem BoolV_seal (x : BoolV) : x.d.sealVal = some x.d := rfl
@[simp high] theorem BoolV_okVal (x : BoolV) : x.d.okVal = true := rfl
@[simp high] theorem BoolV_stale (x : BoolV) : x.d.stale = x.d := rfl
@[simp high] theorem BoolV_back (x : BoolV) (σ : Sto) : x.d.handBack σ = some x.d := by rw [show x.d.handBack σ = x.d.sealVal.or (x.d.snapVal σ) from rfl, BoolV_seal x]; rfl
@[simp high] theorem BoolV_whole (x : BoolV) : fldSem 0 (some 2) [x.d] = some x.d := rfl
@[simp high] theorem BoolV_el (x : BoolV) : ldESem (some 2) [.elem x.row 0] = some x.d := rfl
@[simp high] theorem BoolV_wr (x : BoolV) (c0 c1 : DVal) : jwrSem 0 2 [.agg [c0, c1], x.d] = some x.d := rfl
@[simp high] theorem BoolV_wr2 (x y : BoolV) : jwrSem 0 2 [x.d, y.d] = some y.d := rfl
@[simp high] theorem BoolV_f_name (x : BoolV) : fldSem 0 none [x.d] = some (.str x.name) := rfl
@[simp high] theorem BoolV_e_name (x : BoolV) : ldESem none [.elem x.row 0] = some (.str x.name) := rfl
@[simp high] theorem BoolV_f_value (x : BoolV) : fldSem 1 none [x.d] = some (.bool x.value) := rfl
@[simp high] theorem BoolV_e_value (x : BoolV) : ldESem none [.elem x.row 1] = some (.bool x.value) := rfl
@[simp high] theorem RuleV_jbox (x : RuleV) : jboxSem [x.d] = some x.d := rfl
@[simp high] theorem RuleV_seal (x : RuleV) : x.d.sealVal = some x.d := rfl
@[simp high] theorem RuleV_okVal (x : RuleV) : x.d.okVal = true := rfl
@[simp high] theorem RuleV_stale (x : RuleV) : x.d.stale = x.d := rfl
@[simp high] theorem RuleV_back (x : RuleV) (σ : Sto) : x.d.handBack σ = some x.d := by rw [show x.d.handBack σ = x.d.sealVal.or (x.d.snapVal σ) from rfl, RuleV_seal x]; rfl
@[simp high] theorem RuleV_whole (x : RuleV) : fldSem 0 (some 13) [x.d] = some x.d := rfl
@[simp high] theorem RuleV_el (x : RuleV) : ldESem (some 13) [.elem x.row 0] = some x.d := rfl
@[simp high] theorem RuleV_wr (x : RuleV) (c0 c1 c2 c3 c4 c5 c6 c7 c8 c9 c10 c11 c12 : DVal) : jwrSem 0 13 [.agg [c0, c1, c2, c3, c4, c5, c6, c7, c8, c9, c10, c11, c12], x.d] = some x.d := rfl
@[simp high] theorem RuleV_wr2 (x y : RuleV) : jwrSem 0 13 [x.d, y.d] = some y.d := rfl
@[simp high] theorem RuleV_f_kind (x : RuleV) : fldSem 0 none [x.d] = some (.int .i64 x.kind) := rfl
@[simp high] theorem RuleV_e_kind (x : RuleV) : ldESem none [.elem x.row 0] = some (.int .i64 x.kind) := rfl
@[simp high] theorem RuleV_f_source (x : RuleV) : fldSem 1 (some 4) [x.d] = some x.source.d := rfl
@[simp high] theorem RuleV_e_source (x : RuleV) : ldESem (some 4) [.elem x.row 1] = some x.source.d := rfl
@[simp high] theorem RuleV_f_target (x : RuleV) : fldSem 5 (some 4) [x.d] = some x.target.d := rfl
@[simp high] theorem RuleV_e_target (x : RuleV) : ldESem (some 4) [.elem x.row 5] = some x.target.d := rfl
@[simp high] theorem RuleV_f_self (x : RuleV) : fldSem 9 none [x.d] = some (.bool x.self) := rfl
@[simp high] theorem RuleV_e_self (x : RuleV) : ldESem none [.elem x.row 9] = some (.bool x.self) := rfl
@[simp high] theorem RuleV_f_cls (x : RuleV) : fldSem 10 none [x.d] = some (.int .i64 x.cls) := rfl
@[simp high] theorem RuleV_e_cls (x : RuleV) : ldESem none [.elem x.row 10] = some (.int .i64 x.cls) := rfl
@[simp high] theorem RuleV_f_perms (x : RuleV) : fldSem 11 none [x.d] = some (.int .u32 x.perms) := rfl
@[simp high] theorem RuleV_e_perms (x : RuleV) : ldESem none [.elem x.row 11] = some (.int .u32 x.perms) := rfl
@[simp high] theorem RuleV_f_cond (x : RuleV) : fldSem 12 none [x.d] = some (.int .i64 x.cond) := rfl
@[simp high] theorem RuleV_e_cond (x : RuleV) : ldESem none [.elem x.row 12] = some (.int .i64 x.cond) := rfl
@[simp high] theorem TransV_jbox (x : TransV) : jboxSem [x.d] = some x.d := rfl
@[simp high] theorem TransV_seal (x : TransV) : x.d.sealVal = some x.d := rfl
@[simp high] theorem TransV_okVal (x : TransV) : x.d.okVal = true := rfl
@[simp high] theorem TransV_stale (x : TransV) : x.d.stale = x.d := rfl
@[simp high] theorem TransV_back (x : TransV) (σ : Sto) : x.d.handBack σ = some x.d := by rw [show x.d.handBack σ = x.d.sealVal.or (x.d.snapVal σ) from rfl, TransV_seal x]; rfl
@[simp high] theorem TransV_whole (x : TransV) : fldSem 0 (some 13) [x.d] = some x.d := rfl
@[simp high] theorem TransV_el (x : TransV) : ldESem (some 13) [.elem x.row 0] = some x.d := rfl
@[simp high] theorem TransV_wr (x : TransV) (c0 c1 c2 c3 c4 c5 c6 c7 c8 c9 c10 c11 c12 : DVal) : jwrSem 0 13 [.agg [c0, c1, c2, c3, c4, c5, c6, c7, c8, c9, c10, c11, c12], x.d] = some x.d := rfl
@[simp high] theorem TransV_wr2 (x y : TransV) : jwrSem 0 13 [x.d, y.d] = some y.d := rfl
@[simp high] theorem TransV_f_kind (x : TransV) : fldSem 0 none [x.d] = some (.int .i64 x.kind) := rfl
@[simp high] theorem TransV_e_kind (x : TransV) : ldESem none [.elem x.row 0] = some (.int .i64 x.kind) := rfl
@[simp high] theorem TransV_f_source (x : TransV) : fldSem 1 (some 4) [x.d] = some x.source.d := rfl
@[simp high] theorem TransV_e_source (x : TransV) : ldESem (some 4) [.elem x.row 1] = some x.source.d := rfl
@[simp high] theorem TransV_f_target (x : TransV) : fldSem 5 (some 4) [x.d] = some x.target.d := rfl
@[simp high] theorem TransV_e_target (x : TransV) : ldESem (some 4) [.elem x.row 5] = some x.target.d := rfl
@[simp high] theorem TransV_f_cls (x : TransV) : fldSem 9 none [x.d] = some (.int .i64 x.cls) := rfl
@[simp high] theorem TransV_e_cls (x : TransV) : ldESem none [.elem x.row 9] = some (.int .i64 x.cls) := rfl
@[simp high] theorem TransV_f_name (x : TransV) : fldSem 10 none [x.d] = some (.str x.name) := rfl
@[simp high] theorem TransV_e_name (x : TransV) : ldESem none [.elem x.row 10] = some (.str x.name) := rfl
@[simp high] theorem TransV_f_result (x : TransV) : fldSem 11 none [x.d] = some (.int .i64 x.result) := rfl
@[simp high] theorem TransV_e_result (x : TransV) : ldESem none [.elem x.row 11] = some (.int .i64 x.result) := rfl
@[simp high] theorem TransV_f_cond (x : TransV) : fldSem 12 none [x.d] = some (.int .i64 x.cond) := rfl
@[simp high] theorem TransV_e_cond (x : TransV) : ldESem none [.elem x.row 12] = some (.int .i64 x.cond) := rfl
@[simp high] theorem RoleTransV_jbox (x : RoleTransV) : jboxSem [x.d] = some x.d := rfl
@[simp high] theorem RoleTransV_seal (x : RoleTransV) : x.d.sealVal = some x.d := rfl
@[simp high] theorem RoleTransV_okVal (x : RoleTransV) : x.d.okVal = true := rfl
@[simp high] theorem RoleTransV_stale (x : RoleTransV) : x.d.stale = x.d := rfl
@[simp high] theorem RoleTransV_back (x : RoleTransV) (σ : Sto) : x.d.handBack σ = some x.d := by rw [show x.d.handBack σ = x.d.sealVal.or (x.d.snapVal σ) from rfl, RoleTransV_seal x]; rfl
@[simp high] theorem RoleTransV_whole (x : RoleTransV) : fldSem 0 (some 10) [x.d] = some x.d := rfl
@[simp high] theorem RoleTransV_el (x : RoleTransV) : ldESem (some 10) [.elem x.row 0] = some x.d := rfl
@[simp high] theorem RoleTransV_wr (x : RoleTransV) (c0 c1 c2 c3 c4 c5 c6 c7 c8 c9 : DVal) : jwrSem 0 10 [.agg [c0, c1, c2, c3, c4, c5, c6, c7, c8, c9], x.d] = some x.d := rfl
@[simp high] theorem RoleTransV_wr2 (x y : RoleTransV) : jwrSem 0 10 [x.d, y.d] = some y.d := rfl
@[simp high] theorem RoleTransV_f_roles (x : RoleTransV) : fldSem 0 (some 4) [x.d] = some x.roles.d := rfl
@[simp high] theorem RoleTransV_e_roles (x : RoleTransV) : ldESem (some 4) [.elem x.row 0] = some x.roles.d := rfl
@[simp high] theorem RoleTransV_f_types (x : RoleTransV) : fldSem 4 (some 4) [x.d] = some x.types.d := rfl
@[simp high] theorem RoleTransV_e_types (x : RoleTransV) : ldESem (some 4) [.elem x.row 4] = some x.types.d := rfl
@[simp high] theorem RoleTransV_f_cls (x : RoleTransV) : fldSem 8 none [x.d] = some (.int .i64 x.cls) := rfl
@[simp high] theorem RoleTransV_e_cls (x : RoleTransV) : ldESem none [.elem x.row 8] = some (.int .i64 x.cls) := rfl
@[simp high] theorem RoleTransV_f_result (x : RoleTransV) : fldSem 9 none [x.d] = some (.int .i64 x.result) := rfl
@[simp high] theorem RoleTransV_e_result (x : RoleTransV) : ldESem none [.elem x.row 9] = some (.int .i64 x.result) := rfl
@[simp high] theorem RangeTransV_jbox (x : RangeTransV) : jboxSem [x.d] = some x.d := rfl
@[simp high] theorem RangeTransV_seal (x : RangeTransV) : x.d.sealVal = some x.d := rfl
@[simp high] theorem RangeTransV_okVal (x : RangeTransV) : x.d.okVal = true := rfl
@[simp high] theorem RangeTransV_stale (x : RangeTransV) : x.d.stale = x.d := rfl
@[simp high] theorem RangeTransV_back (x : RangeTransV) (σ : Sto) : x.d.handBack σ = some x.d := by rw [show x.d.handBack σ = x.d.sealVal.or (x.d.snapVal σ) from rfl, RangeTransV_seal x]; rfl
@[simp high] theorem RangeTransV_whole (x : RangeTransV) : fldSem 0 (some 13) [x.d] = some x.d := rfl
@[simp high] theorem RangeTransV_el (x : RangeTransV) : ldESem (some 13) [.elem x.row 0] = some x.d := rfl
@[simp high] theorem RangeTransV_wr (x : RangeTransV) (c0 c1 c2 c3 c4 c5 c6 c7 c8 c9 c10 c11 c12 : DVal) : jwrSem 0 13 [.agg [c0, c1, c2, c3, c4, c5, c6, c7, c8, c9, c10, c11, c12], x.d] = some x.d := rfl
@[simp high] theorem RangeTransV_wr2 (x y : RangeTransV) : jwrSem 0 13 [x.d, y.d] = some y.d := rfl
@[simp high] theorem RangeTransV_f_source (x : RangeTransV) : fldSem 0 (some 4) [x.d] = some x.source.d := rfl
@[simp high] theorem RangeTransV_e_source (x : RangeTransV) : ldESem (some 4) [.elem x.row 0] = some x.source.d := rfl
@[simp high] theorem RangeTransV_f_target (x : RangeTransV) : fldSem 4 (some 4) [x.d] = some x.target.d := rfl
@[simp high] theorem RangeTransV_e_target (x : RangeTransV) : ldESem (some 4) [.elem x.row 4] = some x.target.d := rfl
@[simp high] theorem RangeTransV_f_cls (x : RangeTransV) : fldSem 8 none [x.d] = some (.int .i64 x.cls) := rfl
@[simp high] theorem RangeTransV_e_cls (x : RangeTransV) : ldESem none [.elem x.row 8] = some (.int .i64 x.cls) := rfl
@[simp high] theorem RangeTransV_f_lo (x : RangeTransV) : fldSem 9 (some 2) [x.d] = some x.lo.d := rfl
@[simp high] theorem RangeTransV_e_lo (x : RangeTransV) : ldESem (some 2) [.elem x.row 9] = some x.lo.d := rfl
@[simp high] theorem RangeTransV_f_rng (x : RangeTransV) : fldSem 9 (some 4) [x.d] = some (rngD x.lo x.hi) := rfl
@[simp high] theorem RangeTransV_e_rng (x : RangeTransV) : ldESem (some 4) [.elem x.row 9] = some (rngD x.lo x.hi) := rfl
@[simp high] theorem RangeTransV_f_hi (x : RangeTransV) : fldSem 11 (some 2) [x.d] = some x.hi.d := rfl
@[simp high] theorem RangeTransV_e_hi (x : RangeTransV) : ldESem (some 2) [.elem x.row 11] = some x.hi.d := rfl
@[simp high] theorem SidV_jbox (x : SidV) : jboxSem [x.d] = some x.d := rfl
@[simp high] theorem SidV_seal (x : SidV) : x.d.sealVal = some x.d := rfl
@[simp high] theorem SidV_okVal (x : SidV) : x.d.okVal = true := rfl
@[simp high] theorem SidV_stale (x : SidV) : x.d.stale = x.d := rfl
@[simp high] theorem SidV_back (x : SidV) (σ : Sto) : x.d.handBack σ = some x.d := by rw [show x.d.handBack σ = x.d.sealVal.or (x.d.snapVal σ) from rfl, SidV_seal x]; rfl
@[simp high] theorem SidV_whole (x : SidV) : fldSem 0 (some 8) [x.d] = some x.d := rfl
@[simp high] theorem SidV_el (x : SidV) : ldESem (some 8) [.elem x.row 0] = some x.d := rfl
@[simp high] theorem SidV_wr (x : SidV) (c0 c1 c2 c3 c4 c5 c6 c7 : DVal) : jwrSem 0 8 [.agg [c0, c1, c2, c3, c4, c5, c6, c7], x.d] = some x.d := rfl
@[simp high] theorem SidV_wr2 (x y : SidV) : jwrSem 0 8 [x.d, y.d] = some y.d := rfl
@[simp high] theorem SidV_f_name (x : SidV) : fldSem 0 none [x.d] = some (.str x.name) := rfl
@[simp high] theorem SidV_e_name (x : SidV) : ldESem none [.elem x.row 0] = some (.str x.name) := rfl
@[simp high] theorem SidV_f_ctx (x : SidV) : fldSem 1 (some 7) [x.d] = some x.ctx.d := rfl
@[simp high] theorem SidV_e_ctx (x : SidV) : ldESem (some 7) [.elem x.row 1] = some x.ctx.d := rfl
@[simp high] theorem SidV_e_ctx_user (x : SidV) : ldESem none [.elem x.row 1] = some (.int .i64 x.ctx.user) := rfl
@[simp high] theorem SidV_e_ctx_role (x : SidV) : ldESem none [.elem x.row 2] = some (.int .i64 x.ctx.role) := rfl
@[simp high] theorem SidV_e_ctx_type (x : SidV) : ldESem none [.elem x.row 3] = some (.int .i64 x.ctx.type) := rfl
@[simp high] theorem SidV_e_ctx_lo (x : SidV) : ldESem (some 2) [.elem x.row 4] = some x.ctx.lo.d := rfl
@[simp high] theorem SidV_e_ctx_hi (x : SidV) : ldESem (some 2) [.elem x.row 6] = some x.ctx.hi.d := rfl
@[simp high] theorem FileV_jbox (x : FileV) : jboxSem [x.d] = some x.d := rfl
@[simp high] theorem FileV_seal (x : FileV) : x.d.sealVal = some x.d := rfl
@[simp high] theorem FileV_okVal (x : FileV) : x.d.okVal = true := rfl
@[simp high] theorem FileV_stale (x : FileV) : x.d.stale = x.d := rfl
@[simp high] theorem FileV_back (x : FileV) (σ : Sto) : x.d.handBack σ = some x.d := by rw [show x.d.handBack σ = x.d.sealVal.or (x.d.snapVal σ) from rfl, FileV_seal x]; rfl
@[simp high] theorem FileV_whole (x : FileV) : fldSem 0 (some 9) [x.d] = some x.d := rfl
@[simp high] theorem FileV_el (x : FileV) : ldESem (some 9) [.elem x.row 0] = some x.d := rfl
@[simp high] theorem FileV_wr (x : FileV) (c0 c1 c2 c3 c4 c5 c6 c7 c8 : DVal) : jwrSem 0 9 [.agg [c0, c1, c2, c3, c4, c5, c6, c7, c8], x.d] = some x.d := rfl
@[simp high] theorem FileV_wr2 (x y : FileV) : jwrSem 0 9 [x.d, y.d] = some y.d := rfl
@[simp high] theorem FileV_f_pattern (x : FileV) : fldSem 0 none [x.d] = some (.str x.pattern) := rfl
@[simp high] theorem FileV_e_pattern (x : FileV) : ldESem none [.elem x.row 0] = some (.str x.pattern) := rfl
@[simp high] theorem FileV_f_kind (x : FileV) : fldSem 1 none [x.d] = some (.int .i64 x.kind) := rfl
@[simp high] theorem FileV_e_kind (x : FileV) : ldESem none [.elem x.row 1] = some (.int .i64 x.kind) := rfl
@[simp high] theorem FileV_f_ctx (x : FileV) : fldSem 2 (some 7) [x.d] = some x.ctx.d := rfl
@[simp high] theorem FileV_e_ctx (x : FileV) : ldESem (some 7) [.elem x.row 2] = some x.ctx.d := rfl
@[simp high] theorem FileV_e_ctx_user (x : FileV) : ldESem none [.elem x.row 2] = some (.int .i64 x.ctx.user) := rfl
@[simp high] theorem FileV_e_ctx_role (x : FileV) : ldESem none [.elem x.row 3] = some (.int .i64 x.ctx.role) := rfl
@[simp high] theorem FileV_e_ctx_type (x : FileV) : ldESem none [.elem x.row 4] = some (.int .i64 x.ctx.type) := rfl
@[simp high] theorem FileV_e_ctx_lo (x : FileV) : ldESem (some 2) [.elem x.row 5] = some x.ctx.lo.d := rfl
@[simp high] theorem FileV_e_ctx_hi (x : FileV) : ldESem (some 2) [.elem x.row 7] = some x.ctx.hi.d := rfl
@[simp high] theorem AssertV_jbox (x : AssertV) : jboxSem [x.d] = some x.d := rfl
@[simp high] theorem AssertV_seal (x : AssertV) : x.d.sealVal = some x.d := rfl
@[simp high] theorem AssertV_okVal (x : AssertV) : x.d.okVal = true := rfl
@[simp high] theorem AssertV_stale (x : AssertV) : x.d.stale = x.d := rfl
@[simp high] theorem AssertV_back (x : AssertV) (σ : Sto) : x.d.handBack σ = some x.d := by rw [show x.d.handBack σ = x.d.sealVal.or (x.d.snapVal σ) from rfl, AssertV_seal x]; rfl
@[simp high] theorem AssertV_whole (x : AssertV) : fldSem 0 (some 10) [x.d] = some x.d := rfl
@[simp high] theorem AssertV_el (x : AssertV) : ldESem (some 10) [.elem x.row 0] = some x.d := rfl
@[simp high] theorem AssertV_wr (x : AssertV) (c0 c1 c2 c3 c4 c5 c6 c7 c8 c9 : DVal) : jwrSem 0 10 [.agg [c0, c1, c2, c3, c4, c5, c6, c7, c8, c9], x.d] = some x.d := rfl
@[simp high] theorem AssertV_wr2 (x y : AssertV) : jwrSem 0 10 [x.d, y.d] = some y.d := rfl
@[simp high] theorem AssertV_f_name (x : AssertV) : fldSem 0 none [x.d] = some (.str x.name) := rfl
@[simp high] theorem AssertV_e_name (x : AssertV) : ldESem none [.elem x.row 0] = some (.str x.name) := rfl
@[simp high] theorem AssertV_f_kind (x : AssertV) : fldSem 1 none [x.d] = some (.int .i64 x.kind) := rfl
@[simp high] theorem AssertV_e_kind (x : AssertV) : ldESem none [.elem x.row 1] = some (.int .i64 x.kind) := rfl
@[simp high] theorem AssertV_f_source (x : AssertV) : fldSem 2 (some 4) [x.d] = some x.source.d := rfl
@[simp high] theorem AssertV_e_source (x : AssertV) : ldESem (some 4) [.elem x.row 2] = some x.source.d := rfl
@[simp high] theorem AssertV_f_target (x : AssertV) : fldSem 6 (some 4) [x.d] = some x.target.d := rfl
@[simp high] theorem AssertV_e_target (x : AssertV) : ldESem (some 4) [.elem x.row 6] = some x.target.d := rfl
@[simp high] theorem rng_jbox (l h : LvV) : jboxSem [rngD l h] = some (rngD l h) := rfl
@[simp high] theorem rng_seal (l h : LvV) : (rngD l h).sealVal = some (rngD l h) := rfl
@[simp high] theorem rng_okVal (l h : LvV) : (rngD l h).okVal = true := rfl
@[simp high] theorem rng_stale (l h : LvV) : (rngD l h).stale = rngD l h := rfl
@[simp high] theorem rng_back (l h : LvV) (σ : Sto) : (rngD l h).handBack σ = some (rngD l h) := rfl
@[simp high] theorem rng_whole (l h : LvV) : fldSem 0 (some 4) [rngD l h] = some (rngD l h) := rfl
@[simp high] theorem rng_lo (l h : LvV) : fldSem 0 (some 2) [rngD l h] = some l.d := rfl
@[simp high] theorem rng_hi (l h : LvV) : fldSem 2 (some 2) [rngD l h] = some h.d := rfl
@[simp high] theorem pol_jbox (p : PolV) : jboxSem [p.d] = some p.d := by simp [jboxSem, PolV.d, PolV.row, DVal.cells]
@[simp high] theorem pol_whole (p : PolV) : fldSem 0 (some 17) [p.d] = some p.d := rfl
@[simp high] theorem pol_back (p : PolV) (σ : Sto) : p.d.handBack σ = some p.d := by
  have h : p.d.handBack σ = p.d.sealVal.or (p.d.snapVal σ) := rfl
  rw [h, sealVal_pol]; rfl
section
variable {op a rel b : Int} {names : Sl Bs} {set : SetV} {kz : Zs} {kids : List ExprV}
def kidsD (kz : Zs) (kids : List ExprV) : DVal := slD kz 10 (kids.map ExprV.row)
@[simp high] theorem len_kids : lenSlSem [kidsD kz kids] = some (.int .i64 kids.length) := by simp [kidsD]
@[simp high] theorem idx_kids {k : IntKind} {i : Int} : idxSSem 10 [kidsD kz kids, .int k i] = if 0 ≤ i then (kids[i.toNat]?).map fun e => .elem e.row 0 else none := by
  simp only [kidsD, idx_slD]
  split
  · simp only [List.getElem?_map, Option.map_map, Function.comp_def]
  · rfl
theorem expr_d : (ExprV.mk op a rel b names set kz kids).d = .agg [.int .i64 op, .int .i64 a, .int .i64 rel, .int .i64 b, strs names, .int .u64 (set.w 0), .int .u64 (set.w 1), .int .u64 (set.w 2), .int .u64 (set.w 3), kidsD kz kids] := by
  rw [ExprV.d, ExprV.row_mk]; rfl
theorem expr_row : (ExprV.mk op a rel b names set kz kids).row = [.int .i64 op, .int .i64 a, .int .i64 rel, .int .i64 b, strs names, .int .u64 (set.w 0), .int .u64 (set.w 1), .int .u64 (set.w 2), .int .u64 (set.w 3), kidsD kz kids] := by
  rw [ExprV.row_mk]; rfl
@[simp high] theorem expr_op : fldSem 0 none [(ExprV.mk op a rel b names set kz kids).d] = some (.int .i64 op) := by rw [expr_d]; rfl
@[simp high] theorem expr_a : fldSem 1 none [(ExprV.mk op a rel b names set kz kids).d] = some (.int .i64 a) := by rw [expr_d]; rfl
@[simp high] theorem expr_rel : fldSem 2 none [(ExprV.mk op a rel b names set kz kids).d] = some (.int .i64 rel) := by rw [expr_d]; rfl
@[simp high] theorem expr_b : fldSem 3 none [(ExprV.mk op a rel b names set kz kids).d] = some (.int .i64 b) := by rw [expr_d]; rfl
@[simp high] theorem expr_names : fldSem 4 none [(ExprV.mk op a rel b names set kz kids).d] = some (strs names) := by rw [expr_d]; rfl
@[simp high] theorem expr_set : fldSem 5 (some 4) [(ExprV.mk op a rel b names set kz kids).d] = some set.d := by rw [expr_d]; rfl
@[simp high] theorem expr_kids : fldSem 9 none [(ExprV.mk op a rel b names set kz kids).d] = some (kidsD kz kids) := by rw [expr_d]; rfl
end
theorem expr_cases (e : ExprV) : ∃ op a rel b names set kz kids, e = ExprV.mk op a rel b names set kz kids := by
  cases e; exact ⟨_, _, _, _, _, _, _, _, rfl⟩
@[simp high] theorem expr_jbox (e : ExprV) : jboxSem [e.d] = some e.d := by
  obtain ⟨op, a, rel, b, names, set, kz, kids, rfl⟩ := expr_cases e
  rw [expr_d]; simp [jboxSem, kidsD, DVal.cells]
@[simp high] theorem expr_seal (e : ExprV) : e.d.sealVal = some e.d := by
  obtain ⟨op, a, rel, b, names, set, kz, kids, rfl⟩ := expr_cases e
  rw [expr_d]; simp [kidsD, DVal.sealVal, sealCells]
@[simp high] theorem expr_okVal (e : ExprV) : e.d.okVal = true := by
  obtain ⟨op, a, rel, b, names, set, kz, kids, rfl⟩ := expr_cases e
  rw [expr_d]; simp [kidsD, DVal.okVal]
@[simp high] theorem expr_whole (e : ExprV) : fldSem 0 (some 10) [e.d] = some e.d := by
  obtain ⟨op, a, rel, b, names, set, kz, kids, rfl⟩ := expr_cases e
  rw [expr_d]; rfl
@[simp high] theorem expr_el (e : ExprV) : ldESem (some 10) [.elem e.row 0] = some e.d := by
  obtain ⟨op, a, rel, b, names, set, kz, kids, rfl⟩ := expr_cases e
  rw [expr_d, expr_row]; rfl
@[simp high] theorem expr_wr (e : ExprV) (c0 c1 c2 c3 c4 c5 c6 c7 c8 c9 : DVal) : jwrSem 0 10 [.agg [c0, c1, c2, c3, c4, c5, c6, c7, c8, c9], e.d] = some e.d := by
  obtain ⟨op, a, rel, b, names, set, kz, kids, rfl⟩ := expr_cases e
  rw [expr_d]; simp [jwrSem, kidsD, DVal.cells, writeCells]
theorem constr_row (x : ConstrV) : ∃ op a rel b names set kz kids, x.expr = ExprV.mk op a rel b names set kz kids ∧ x.row = [.int .i64 x.cls, .int .u32 x.perms, .bool x.validate, .int .i64 op, .int .i64 a, .int .i64 rel, .int .i64 b, strs names, .int .u64 (set.w 0), .int .u64 (set.w 1), .int .u64 (set.w 2), .int .u64 (set.w 3), kidsD kz kids] := by
  obtain ⟨op, a, rel, b, names, set, kz, kids, h⟩ := expr_cases x.expr
  refine ⟨op, a, rel, b, names, set, kz, kids, h, ?_⟩
  unfold ConstrV.row
  rw [h, expr_row]; rfl
@[simp high] theorem ConstrV_el (x : ConstrV) : ldESem (some 13) [.elem x.row 0] = some x.d := by
  obtain ⟨op, a, rel, b, names, set, kz, kids, -, h⟩ := constr_row x
  rw [ConstrV.d, h]; rfl
@[simp high] theorem ConstrV_wr (x : ConstrV) (c0 c1 c2 c3 c4 c5 c6 c7 c8 c9 c10 c11 c12 : DVal) : jwrSem 0 13 [.agg [c0, c1, c2, c3, c4, c5, c6, c7, c8, c9, c10, c11, c12], x.d] = some x.d := by
  obtain ⟨op, a, rel, b, names, set, kz, kids, -, h⟩ := constr_row x
  rw [ConstrV.d, h]; simp [jwrSem, kidsD, DVal.cells, writeCells]
@[simp high] theorem ConstrV_f_cls (x : ConstrV) : fldSem 0 none [x.d] = some (.int .i64 x.cls) := by
  obtain ⟨op, a, rel, b, names, set, kz, kids, -, h⟩ := constr_row x
  rw [ConstrV.d, h]; rfl
@[simp high] theorem ConstrV_f_perms (x : ConstrV) : fldSem 1 none [x.d] = some (.int .u32 x.perms) := by
  obtain ⟨op, a, rel, b, names, set, kz, kids, -, h⟩ := constr_row x
  rw [ConstrV.d, h]; rfl
@[simp high] theorem ConstrV_f_validate (x : ConstrV) : fldSem 2 none [x.d] = some (.bool x.validate) := by
  obtain ⟨op, a, rel, b, names, set, kz, kids, -, h⟩ := constr_row x
  rw [ConstrV.d, h]; rfl
@[simp high] theorem ConstrV_f_expr (x : ConstrV) : fldSem 3 (some 10) [x.d] = some x.expr.d := by
  obtain ⟨op, a, rel, b, names, set, kz, kids, e, h⟩ := constr_row x
  rw [ConstrV.d, h, e, expr_d]; rfl
@[simp high] theorem ConstrV_e_expr (x : ConstrV) : ldESem (some 10) [.elem x.row 3] = some x.expr.d := by
  obtain ⟨op, a, rel, b, names, set, kz, kids, e, h⟩ := constr_row x
  rw [h, e, expr_d]; rfl
end Go.Proofs.Ytdibpeknpmhknaa
namespace Go.Proofs.Ytdibpeknpmhknaa
set_option linter.unusedVariables false
set_option linter.unusedSimpArgs false
open Go
theorem elems_slD {z : Zs} {sz : Nat} {l : List (List DVal)} : elemsOf (slD z sz l) = some (false, l) := by
  cases z <;> cases l <;> rfl
theorem szOk_slD {z : Zs} {sz : Nat} {l : List (List DVal)} : (slD z sz l).szOk sz = true := by
  cases z <;> cases l <;> simp [slD, DVal.szOk]
end Go.Proofs.Ytdibpeknpmhknaa
