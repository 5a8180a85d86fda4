/- From what a law's arguments read as, to values of the small language; and from the law's call in the small language to what its row asks. Of no one program. -/
import Derived.Test.YtdnoonnanhnkaaaDoorTreeFun
import Derived.OpenShut
import Derived.Carry
import Derived.DataReads
import Derived.Shelf.Vars
set_option linter.unusedVariables false
set_option linter.unusedSimpArgs false
namespace Go.Proofs.YtdnoonnanhnkaaaDoor
open Go Go.RowKit

/-- A slice of an argument: nil only if it is empty. -/
def slD (z : Bool) (sz : Nat) (es : List (List DVal)) : DVal := if z && es.isEmpty then .nils else .slice false 0 sz es

def fieldsAt (P : Program) (rec : TypeId → Bool) (off : Nat) : List Field → Option Nat
  | [] => some off
  | f :: fs => if f.offset = off && rec f.type then fieldsAt P rec (off + P.cellsOf f.type) fs else none

/-- Types of plain data. -/
def plainT (P : Program) : Nat → TypeId → Bool
  | 0, _ => false
  | n + 1, t => match P.underlying t with
    | some .bool | some (.int _) | some .string => true
    | some (.slice e) => plainT P n e && Nat.blt 0 (P.cellsOf e)
    | some (.struct fs) => match fieldsAt P (plainT P n) 0 fs.toList with
      | some k => Nat.beq k (P.cellsOf t)
      | none => false
    | _ => false

/-- Cells of a value of such a type. -/
def DTy (P : Program) : Nat → TypeId → List DVal → Prop
  | 0, _, _ => False
  | n + 1, t, cs => match P.underlying t with
    | some .bool => ∃ b, cs = [.bool b]
    | some (.int k) => ∃ i, cs = [.int k i] ∧ (Lit.int k i).wf = true
    | some .string => ∃ s, cs = [.str s] ∧ s.length ≤ maxLen
    | some (.slice e) => ∃ z es, cs = [slD z (P.cellsOf e) es] ∧ (∀ r ∈ es, DTy P n e r) ∧ es.length ≤ maxLen
    | some (.struct fs) => fs.toList.foldr (fun f K cs => ∃ a b, cs = a ++ b ∧ DTy P n f.type a ∧ K b) (fun cs => cs = []) cs
    | _ => False

def DTyArg (P : Program) (t : TypeId) (d : DVal) : Prop :=
  match P.underlying t with
  | some (.struct _) => ∃ cs, d = .agg cs ∧ DTy P 20 t cs
  | _ => DTy P 20 t [d]

def DTyArgs (P : Program) : List TypeId → List DVal → Prop
  | [], ds => ds = []
  | t :: ts, ds => ∃ d es, ds = d :: es ∧ DTyArg P t d ∧ DTyArgs P ts es

section
variable {H : Type} {enc : TypeId × Value → H} {P : Program} {w : World} {spare : Nat → Bool} {held : Bool}

def oldI (w : World) (b n : Nat) : Prop := b < w.heap.size

theorem imm_old {b n : Nat} : (VI (oldI w) w.heap.size).imm b n ↔ b < w.heap.size := by rw [VI_imm]; exact ⟨fun h => h.1, fun h => ⟨h, h⟩⟩

abbrev VO (w : World) : Vw := VI (oldI w) w.heap.size

theorem row_of_cells {b : Nat} : ∀ {ds : List DVal} {cs : List Value} {off : Nat}, (∀ i v, cs[i]? = some v → w.cell? ⟨b, off + i, none⟩ = some v) → (∀ v ∈ cs, v.oneCell' = true) → (0 < cs.length → b < w.heap.size) → VRels (VO w) w 2 ds cs → RowRel (VO w) w 2 b off ds
  | [], cs, off, _, _, _, _ => by simp only [RowRel]
  | d :: ds, cs, off, hc, h1, hb, h => by
    simp only [VRels] at h
    obtain ⟨v, us, rfl, hv, hr⟩ := h
    simp only [RowRel]
    refine ⟨imm_old.2 (hb (by simp)), ⟨v, hc 0 v rfl, h1 v (by simp), hv⟩, ?_⟩
    refine row_of_cells (cs := us) (fun i u hu => ?_) (fun u hu => h1 u (by simp [hu])) (fun _ => hb (by simp)) hr
    have := hc (i + 1) u (by simpa using hu)
    rwa [show off + 1 + i = off + (i + 1) by omega]

/-- Types without slices. -/
def flatT (P : Program) : Nat → TypeId → Bool
  | 0, _ => false
  | n + 1, t => match P.underlying t with
    | some .bool | some (.int _) | some .string => true
    | some (.struct fs) => fs.toList.all fun f => flatT P n f.type
    | _ => false

/-- Every slice in a type is of elements without slices. -/
def flatS (P : Program) : Nat → TypeId → Bool
  | 0, _ => false
  | n + 1, t => match P.underlying t with
    | some .bool | some (.int _) | some .string => true
    | some (.slice e) => flatT P n e
    | some (.struct fs) => fs.toList.all fun f => flatS P n f.type
    | _ => false

theorem flatT_S : ∀ {n : Nat} {t : TypeId}, flatT P n t = true → flatS P n t = true
  | 0, _, h => by simp [flatT] at h
  | n + 1, t, h => by
    unfold flatT at h
    unfold flatS
    split at h
    · rename_i hu; rw [hu]
    · rename_i hu; rw [hu]
    · rename_i hu; rw [hu]
    · rename_i hu
      rw [hu]
      simp only [List.all_eq_true] at h ⊢
      exact fun f hf => flatT_S (h f hf)
    · cases h

def SpotOk (v : Value) : Prop := ∀ a len cap, v = .slice (some a) len cap → a.spot = none

theorem fields_cells {rec : TypeId → Bool} {D : TypeId → List DVal → Prop} {G : List Value → Prop} {w : World} {cs : List Value} (hG : ∀ v, v ∈ cs → G [v]) :
    ∀ (fs : List Field) (off k : Nat), fieldsAt P rec off fs = some k → off ≤ cs.length → k = cs.length →
      (∀ f, f ∈ fs → rec f.type = true → (∀ v, v ∈ (cs.drop f.offset).take (P.cellsOf f.type) → G [v]) → f.offset + P.cellsOf f.type ≤ cs.length → ∃ ds, D f.type ds ∧ VRels (VO w) w 2 ds ((cs.drop f.offset).take (P.cellsOf f.type)) ∧ ∀ v ∈ (cs.drop f.offset).take (P.cellsOf f.type), v.oneCell' = true) →
      ∃ ds, fs.foldr (fun f K cs => ∃ a b, cs = a ++ b ∧ D f.type a ∧ K b) (fun cs => cs = []) ds ∧ VRels (VO w) w 2 ds (cs.drop off) ∧ ∀ v ∈ cs.drop off, v.oneCell' = true
  | [], off, k, h, hle, hk, _ => by
    simp only [fieldsAt, Option.some.injEq] at h
    subst h hk
    rw [List.drop_length]
    exact ⟨[], rfl, by simp [VRels], by simp⟩
  | f :: fs, off, k, h, hle, hk, hf => by
    simp only [fieldsAt] at h
    split at h
    · rename_i hc
      simp only [Bool.and_eq_true, decide_eq_true_eq] at hc
      obtain ⟨rfl, hr⟩ := hc
      have hkle : ∀ (gs : List Field) (o q : Nat), fieldsAt P rec o gs = some q → o ≤ q := by
        intro gs
        induction gs with
        | nil => intro o q h; simp only [fieldsAt, Option.some.injEq] at h; omega
        | cons g gs ih => intro o q h; simp only [fieldsAt] at h; split at h; · have := ih _ _ h; omega
                          · cases h
      have hle2 : f.offset + P.cellsOf f.type ≤ cs.length := by have := hkle _ _ _ h; omega
      obtain ⟨ds1, a1, a2, a3⟩ := hf f (by simp) hr (fun v hv => hG v (List.mem_of_mem_drop (List.mem_of_mem_take hv))) hle2
      obtain ⟨ds2, b1, b2, b3⟩ := fields_cells hG fs _ k h hle2 hk (fun g hg => hf g (by simp [hg]))
      have hsplit : cs.drop f.offset = (cs.drop f.offset).take (P.cellsOf f.type) ++ cs.drop (f.offset + P.cellsOf f.type) := by
        rw [← List.drop_drop, List.take_append_drop]
      refine ⟨ds1 ++ ds2, ⟨ds1, ds2, rfl, a1, b1⟩, ?_, ?_⟩
      · rw [hsplit]; exact a2.append b2
      · rw [hsplit]
        intro v hv
        rcases List.mem_append.1 hv with hv | hv
        · exact a3 v hv
        · exact b3 v hv
    · cases h

theorem trod_cells : ∀ (k : Nat) (t : TypeId), plainT P k t = true → flatS P k t = true → ∀ (fuel : Nat) (cs : List Value) (x : DataW H × List MemPlace), DataW.trod enc P w 0 spare held fuel t cs = some x → (flatT P k t = true ∨ ∀ v, v ∈ cs → SpotOk v) →
    ∃ ds, DTy P k t ds ∧ VRels (VO w) w 2 ds cs ∧ ∀ v ∈ cs, v.oneCell' = true
  | 0, t, hp, _, _, _, _, _, _ => by simp [plainT] at hp
  | k + 1, t, hp, hfl, fuel, cs, x, h, hsp => by
    have ih := trod_cells k
    unfold plainT at hp
    unfold flatS at hfl
    unfold flatT at hsp
    unfold DTy
    split at hp
    · rename_i hu
      obtain ⟨b, rfl, -⟩ := DataW.trod_bool hu h
      exact ⟨[.bool b], ⟨b, rfl⟩, ⟨_, [], rfl, by simp [VRel], by simp [VRels]⟩, by simp [Value.oneCell']⟩
    · rename_i kk hu
      obtain ⟨n, rfl, -, hw⟩ := DataW.trod_int hu h
      exact ⟨[.int kk n], ⟨n, rfl, hw⟩, ⟨_, [], rfl, by simp [VRel], by simp [VRels]⟩, by simp [Value.oneCell']⟩
    · rename_i hu
      obtain ⟨s, rfl, -, hs⟩ := DataW.trod_string hu h
      exact ⟨[.str s.data.toList], ⟨_, rfl, by rw [Array.length_toList]; exact hs⟩, ⟨_, [], rfl, by simp [VRel], by simp [VRels]⟩, by simp [Value.oneCell']⟩
    · rename_i e hu
      rw [hu] at hfl hsp
      try simp only at hfl hsp
      simp only [Bool.and_eq_true, Nat.blt_eq] at hp
      simp only [Bool.false_eq_true, false_or] at hsp
      rcases DataW.trod_slice hu h with ⟨rfl, -⟩ | ⟨a, len, cap, elems, rest, n, rfl, rfl, rfl, -, hlc, hcap, hlen, hel, -, -⟩
      · exact ⟨[.nils], ⟨true, [], rfl, by simp, Nat.zero_le _⟩, ⟨_, [], rfl, by simp [VRel], by simp [VRels]⟩, by simp [Value.oneCell']⟩
      · have hspot := hsp _ (by simp) a len cap rfl
        obtain ⟨b, off, spot⟩ := a
        simp only at hspot
        subst hspot
        have key : ∀ m, m ≤ len → ∃ es : List (List DVal), es.length = m ∧ (∀ r ∈ es, DTy P k e r) ∧ RowsRel (VO w) w 2 b (P.cellsOf e) (off + (len - m) * P.cellsOf e) es := by
          intro m
          induction m with
          | zero => intro _; exact ⟨[], rfl, by simp, by simp only [RowsRel]⟩
          | succ m ihm =>
            intro hm
            obtain ⟨es, e1, e2, e3⟩ := ihm (by omega)
            have hi := hel (len - (m + 1)) (by omega)
            have hlt : len - (m + 1) < elems.length := by omega
            rw [List.getElem?_eq_getElem hlt, Option.bind_eq_some_iff] at hi
            obtain ⟨cs', hc', ht'⟩ := hi
            obtain ⟨ds, d1, d2, d3⟩ := ih e hp.1 (flatT_S hfl) n cs' _ ht' (.inl hfl)
            obtain ⟨-, hl', hget⟩ := World.cells?_some hc'
            have hcell : ∀ i v, cs'[i]? = some v → w.cell? ⟨b, off + (len - (m + 1)) * P.cellsOf e + i, none⟩ = some v := by
              intro i v hv
              have hi' : i < P.cellsOf e := by rw [← hl']; exact (List.getElem?_eq_some_iff.1 hv).1
              have := hget i hi'
              rw [hv] at this
              rw [← this]
              congr 1
              simp only [Addr.add]
              split <;> split <;> simp_all <;> omega
            have hb : 0 < cs'.length → b < w.heap.size := by
              intro h0
              have := hcell 0 cs'[0] (by rw [List.getElem?_eq_getElem h0])
              unfold World.cell? at this
              simp only at this
              split at this
              · rename_i hh; exact (Array.getElem?_eq_some_iff.1 hh).1
              · cases this
            have hrow := row_of_cells (w := w) (b := b) (off := off + (len - (m + 1)) * P.cellsOf e) hcell d3 hb d2
            refine ⟨ds :: es, by simp [e1], by simpa using ⟨d1, e2⟩, ?_⟩
            simp only [RowsRel]
            refine ⟨by rw [← d2.length, hl'], hrow, ?_⟩
            have : off + (len - (m + 1)) * P.cellsOf e + P.cellsOf e = off + (len - m) * P.cellsOf e := by
              rw [show len - m = (len - (m + 1)) + 1 by omega, Nat.add_mul]; omega
            rw [this]
            exact e3
        obtain ⟨es, e1, e2, e3⟩ := key len (Nat.le_refl _)
        refine ⟨[.slice false 0 (P.cellsOf e) es], ⟨false, es, rfl, e2, by omega⟩, ⟨_, [], rfl, ?_, by simp [VRels]⟩, by simp [Value.oneCell']⟩
        simp only [VRel]
        refine ⟨.inr ⟨trivial, by omega⟩, b, off, cap, by rw [e1], by omega, ⟨by omega, by omega, by omega⟩, ?_⟩
        simpa [emode] using e3
    · rename_i fs hu
      rw [hu] at hfl hsp
      try simp only at hfl hsp
      split at hp
      · rename_i q hq
        have hq' := Nat.eq_of_beq_eq_true hp
        obtain ⟨xs, n, rfl, rfl, hlen, hxs, hget⟩ := DataW.trod_struct hu h
        simp only [List.all_eq_true] at hfl hsp
        have := fields_cells (P := P) (rec := plainT P k) (D := DTy P k) (G := fun _ => True) (w := w) (cs := cs) (fun _ _ => trivial) fs.toList 0 q hq (Nat.zero_le _) (by omega) (by
          intro f hf hr _ _
          obtain ⟨i, hi⟩ := List.getElem?_of_mem hf
          rw [Array.getElem?_toList] at hi
          have hx := hget i f hi
          have hix : i < xs.length := by rw [hxs]; exact (Array.getElem?_eq_some_iff.1 hi).1
          rw [List.getElem?_eq_getElem hix] at hx
          refine ih f.type hr (hfl f hf) n _ _ hx ?_
          rcases hsp with hsp | hsp
          · exact .inl (hsp f hf)
          · exact .inr fun v hv => hsp v (List.mem_of_mem_drop (List.mem_of_mem_take hv)))
        simpa using this
      · cases hp
    · cases hp


/-- One argument. -/
theorem arg_rel {t : TypeId} {v : Value} {d : DataW H} {p : List MemPlace} {base : Nat} (hp : plainT P 20 t = true) (hf : flatS P 20 t = true) (hok : Value.okWide P w .any base t v)
    (h : DataW.Trod enc P w 0 spare held t v d p) : ∃ D, DTyArg P t D ∧ VRel (VO w) w 2 D v := by
  obtain ⟨fuel, h⟩ := h
  have hcell : ∀ u c, Cell.okWide P w .any base u c → SpotOk c := by
    intro u c hc a len cap e
    subst e
    unfold Cell.okWide Cell.ok at hc
    cases hu : P.underlying u with
    | none => rw [hu] at hc; exact hc.elim
    | some d => rw [hu] at hc; cases d <;> simp only at hc <;> first | exact hc.elim | exact hc.2.2.2.1
  by_cases hs : ∃ fs, P.underlying t = some (.struct fs)
  · obtain ⟨fs, hs⟩ := hs
    unfold Value.okWide at hok
    rw [hs] at hok
    obtain ⟨cs, rfl, -, ts, -, -, hall⟩ := hok
    have hspot : ∀ v, v ∈ (Value.agg cs).cells.toList → SpotOk v := by
      intro v hv
      obtain ⟨i, hi⟩ := List.getElem?_of_mem hv
      obtain ⟨u, -, hu⟩ := hall i v (by simpa [Value.cells] using hi)
      exact hcell u v hu
    obtain ⟨ds, h1, h2, -⟩ := trod_cells 20 t hp hf fuel _ _ h (.inr hspot)
    refine ⟨.agg ds, ?_, ?_⟩
    · unfold DTyArg; rw [hs]; exact ⟨ds, rfl, h1⟩
    · simp only [VRel]; exact ⟨cs, rfl, h2⟩
  · have hok' : Cell.okWide P w .any base t v := by
      unfold Value.okWide at hok
      split at hok
      · rename_i fs e; exact absurd ⟨fs, e⟩ hs
      · rename_i n e he; unfold plainT at hp; rw [he] at hp; cases hp
      · exact hok
    have hv : v.cells.toList = [v] := by
      cases v with
      | agg cs =>
        exfalso
        unfold Cell.okWide Cell.ok at hok'
        cases hu : P.underlying t with
        | none => rw [hu] at hok'; exact hok'
        | some d => rw [hu] at hok'; unfold plainT at hp; rw [hu] at hp; cases d <;> simp at hok' hp
      | _ => rfl
    rw [hv] at h
    obtain ⟨ds, h1, h2, -⟩ := trod_cells 20 t hp hf fuel _ _ h (.inr fun u hu => by rw [List.mem_singleton] at hu; subst hu; exact hcell t u hok')
    have hl := h2.length
    match ds, hl with
    | [D], _ =>
      refine ⟨D, ?_, ?_⟩
      · unfold DTyArg
        split
        · rename_i fs e; exact absurd ⟨fs, e⟩ hs
        · exact h1
      · simp only [VRels] at h2
        obtain ⟨u, us, e, h3, -⟩ := h2
        simp only [List.cons.injEq] at e
        rw [e.1]; exact h3

theorem args_rel {base : Nat} : ∀ {ts : List TypeId} {vs : List Value} {ds : List (DataW H)} {p : List MemPlace}, ts.all (plainT P 20) = true → ts.all (flatS P 20) = true → (∀ (j : Nat) t v, ts[j]? = some t → vs[j]? = some v → Value.okWide P w .any base t v) →
    DataW.TrodAll enc P w 0 spare held ts vs ds p → ∃ Ds, DTyArgs P ts Ds ∧ VRels (VO w) w 2 Ds vs
  | [], [], [], p, _, _, _, h => ⟨[], rfl, by simp [VRels]⟩
  | t :: ts, v :: vs, d :: ds, p, hp, hf, hok, h => by
    simp only [List.all_cons, Bool.and_eq_true] at hp hf
    obtain ⟨p1, q1, h1, h2, -⟩ := h
    obtain ⟨D, a1, a2⟩ := arg_rel hp.1 hf.1 (hok 0 t v rfl rfl) h1
    obtain ⟨Ds, b1, b2⟩ := args_rel hp.2 hf.2 (fun j t v ht hv => hok (j + 1) t v (by simpa using ht) (by simpa using hv)) h2
    exact ⟨D :: Ds, ⟨D, Ds, rfl, a1, b1⟩, ⟨v, vs, rfl, a2, b2⟩⟩
  | [], _ :: _, _, _, _, _, _, h => h.elim
  | [], [], _ :: _, _, _, _, _, h => h.elim
  | _ :: _, [], _, _, _, _, _, h => h.elim
  | _ :: _, _ :: _, [], _, _, _, _, h => h.elim

theorem trodAll_below (hl : laidOutB P = true) {W' : World} (hb : Below w.heap.size w W') {sp : Nat → Bool} : ∀ {ts : List TypeId} {vs : List Value} {ds : List (DataW H)} {p : List MemPlace}, (∀ t, t ∈ ts → P.readableRec t = true ∧ t < P.types.size) →
    DataW.TrodAll enc P w 0 (fun _ => true) true ts vs ds p → (∀ x ∈ p, x.block < w.heap.size) → (∀ x ∈ p, sp x.block = true) → DataW.TrodAll enc P W' 0 sp true ts vs ds p
  | [], [], [], p, _, h, _, _ => h
  | t :: ts, v :: vs, d :: ds, p, ht, h, hlt, hsp => by
    obtain ⟨p1, q1, h1, h2, rfl⟩ := h
    exact ⟨p1, q1, WideElems.Trod_stays hl (ht t (by simp)).1 (ht t (by simp)).2 h1 (fun x hx => hb.same (hlt x (by simp [hx]))) (fun x hx => hsp x (by simp [hx])),
      trodAll_below hl hb (fun u hu => ht u (by simp [hu])) h2 (fun x hx => hlt x (by simp [hx])) (fun x hx => hsp x (by simp [hx])), rfl⟩
  | [], _ :: _, _, _, _, h, _, _ => h.elim
  | [], [], _ :: _, _, _, h, _, _ => h.elim
  | _ :: _, [], _, _, _, h, _, _ => h.elim
  | _ :: _, _ :: _, [], _, _, h, _, _ => h.elim

/-- A law that answers true and touches nothing that was there. -/
theorem post_of_true {fn : Func} {s : ChangeSpec} {apart fresh handsOn again : Bool} {W' : World} {args : Array Value} {ds gs : List (DataW H)} {before : List MemPlace} {tb : TypeId}
    (hW : DataW.Whole enc P fn.params.toList s.vars apart w args.toList ds gs before) (hvars : s.vars = []) (hres : fn.resultTypes = #[tb]) (htb : P.underlying tb = some .bool)
    (hspec : s.fn H (ds ++ gs) = { results := [.lit (.bool true)], args := ds, vars := [] }) (hl : laidOutB P = true) (ht : ∀ t, t ∈ fn.params.toList → P.readableRec t = true ∧ t < P.types.size) (hb : Below w.heap.size w W') :
    s.post enc P fn apart fresh handsOn again w args (.bool true) W' := by
  obtain ⟨p, q, hA, hV, hpq, hz, hn⟩ := id hW
  rw [hvars] at hV
  have hq : gs = [] ∧ q = [] := by
    cases gs with
    | nil => exact ⟨rfl, hV⟩
    | cons g gs => exact hV.elim
  obtain ⟨rfl, rfl⟩ := hq
  rw [List.append_nil] at hpq hspec
  subst hpq
  have hlt := hW.lt
  have hargs : ∀ sp : Nat → Bool, (∀ x ∈ before, sp x.block = true) → DataW.TrodAll enc P W' 0 sp true fn.params.toList args.toList ds before := fun sp hsp => trodAll_below hl hb ht hA hlt hsp
  have hr : ∀ (b : Nat) (sp : Nat → Bool) (hd : Bool), DataW.TrodAll enc P W' b sp hd fn.resultTypes.toList ((Value.bool true).resultList fn.resultTypes.size) [.lit (.bool true)] [] := by
    intro b sp hd
    rw [hres]
    exact ⟨[], [], shut_bool htb true, rfl, rfl⟩
  have hold : ∀ x ∈ before, (fun b => decide (b < w.heap.size)) x.block = true := fun x hx => by simpa using hlt x hx
  have hvv : ∀ sp, DataW.TrodVars enc P W' sp s.vars [] [] := fun sp => by rw [hvars]; rfl
  refine ⟨ds, [], before, [], before, [], hW, by simpa [hspec] using hr _ _ _, by simpa [hspec] using hargs _ hold, by simpa [hspec] using hvv _, World.keptBut_mono (fun x hx => ⟨hx, by simpa using hx⟩) (hb.frame (· ∈ before)), fun _ => ?_⟩
  refine ⟨ok_one hres rfl (okWide_bool_mk htb true), [.lit (.bool true)] ++ ds, [], before, ⟨before, [], ?_, hvv _, by simp, ?_, ?_⟩, ?_⟩
  · simpa [hspec] using ChangeShapes.trodAll_append (hargs _ (fun _ _ => rfl)) (hr 0 (fun _ => true) true)
  · intro b off hx
    rw [hb.frozen (p := ⟨b, off, none⟩) (hlt _ hx)]
    exact hz b off hx
  · intro ha; exact hn ha
  · intro x hx _; exact hx
end

end Go.Proofs.YtdnoonnanhnkaaaDoor
