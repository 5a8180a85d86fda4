/- What it means that a real value reads as a value of the small language, and that this is kept while memory grows. -/
import Derived.Test.YtdnoonnanhnkaaaDoorSimDefs
import Derived.Laws.Sem
set_option linter.unusedVariables false
namespace Go.Proofs.YtdnoonnanhnkaaaDoor
open Go

/-- How the small language's names lie in memory: blocks below B were there before; of these, the cells I0 are never written; tag: what a later block is for (0: none of ours, 1: an array that is never written again, 2: a local root, 3: an object, 4: an array that a token may extend); lam, phi, tb: the blocks of roots, objects and tokens; the rest as in the state. -/
structure Vw where
  B : Nat
  I0 : Nat → Nat → Prop
  tag : Nat → Nat × Nat
  lam : Nat → Nat
  phi : Nat → Nat
  tb : Nat → Nat
  ep : Nat → Nat
  nobj : Nat
  ntok : Nat
  fr : Nat → Nat

/-- The cells that are never written again. -/
def Vw.imm (V : Vw) (b n : Nat) : Prop :=
  (b < V.B ∧ V.I0 b n) ∨ (V.B ≤ b ∧ ((V.tag b).1 = 1 ∨ ((V.tag b).1 = 4 ∧ n < V.fr (V.tag b).2)))

def OwnRel (V : Vw) (w : World) (own sz len b off cap : Nat) : Prop :=
  own ≠ 2 ∧ (own = 1 → cap = len) ∧
  (3 ≤ own → own - 3 < V.ntok ∧ len * sz ≤ V.fr (own - 3) ∧
    (len * sz = V.fr (own - 3) → V.tb (own - 3) = b ∧ off = 0 ∧ ∃ c el, w.heap[b]? = some (.cells c el (0, 0)) ∧ c.size = cap * sz))

/-- The mode of a slice's elements. -/
def emode (pt : Bool) : Nat := if pt then 1 else 2

mutual
/-- A real value reads as a value. m: 0: in a frame; 1: in a cell that outlives frames: no address of a local; 2: no address at all. -/
def VRel (V : Vw) (w : World) (m : Nat) : DVal → Value → Prop
  | .undef, v => m = 0 ∧ v = Go.undef
  | .bool b, v => v = .bool b
  | .int k n, v => v = .int k n
  | .str s, v => v = .string ⟨s.toArray⟩
  | .nilp, v => v = .pointer none
  | .nils, v => v = .slice none 0 0
  | .nilm, v => v = .map none
  | .nilf, v => v = .nilFunc
  | .loc r ep off, v => m = 0 ∧ 0 < ep ∧ ep ≤ V.ep r ∧ ∃ a, v = .pointer (some a) ∧ (ep = V.ep r → a = ⟨V.lam r, off, none⟩)
  | .obj id off, v => m ≤ 1 ∧ id < V.nobj ∧ v = .pointer (some ⟨V.phi id, off, none⟩)
  | .elem cs off, v => m = 0 ∧ ∃ b o, v = .pointer (some ⟨b, o + off, none⟩) ∧ RowRel V w 1 b o cs
  | .slice pt own sz es, v => (m ≤ 1 ∨ (pt = false ∧ own ≤ 1)) ∧ ∃ b off cap, v = .slice (some ⟨b, off, none⟩) es.length cap ∧ es.length ≤ cap ∧
      OwnRel V w own sz es.length b off cap ∧ RowsRel V w (emode pt) b sz off es
  | .map id, v => m ≤ 1 ∧ id < V.nobj ∧ v = .map (some (V.phi id))
  | .func f caps, v => m ≤ 1 ∧ ∃ vs, v = .func (.func f) #[] vs ∧ VRels V w 1 caps vs.toList
  | .nilI, v => v = .nilIface
  | .iface t d, v => ∃ u, v = .iface t u ∧ VRel V w m d u
  | .mslice id off len cap, v => m ≤ 1 ∧ id < V.nobj ∧ len ≤ cap ∧ v = .slice (some ⟨V.phi id, off, none⟩) len cap
  | .agg cs, v => ∃ vs, v = .agg vs ∧ VRels V w m cs vs.toList
  | .tup cs, v => ∃ vs, v = .tuple vs ∧ VRels V w m cs vs.toList
def VRels (V : Vw) (w : World) (m : Nat) : List DVal → List Value → Prop
  | [], vs => vs = []
  | d :: ds, vs => ∃ v us, vs = v :: us ∧ VRel V w m d v ∧ VRels V w m ds us
/-- Cells that are never written again. -/
def RowRel (V : Vw) (w : World) (m : Nat) (b : Nat) (off : Nat) : List DVal → Prop
  | [] => True
  | c :: cs => V.imm b off ∧ (∃ v, w.cell? ⟨b, off, none⟩ = some v ∧ v.oneCell' = true ∧ VRel V w m c v) ∧ RowRel V w m b (off + 1) cs
def RowsRel (V : Vw) (w : World) (m : Nat) (b sz : Nat) (off : Nat) : List (List DVal) → Prop
  | [] => True
  | e :: es => e.length = sz ∧ RowRel V w m b off e ∧ RowsRel V w m b sz (off + sz) es
end

/-- Immutable cells stay, and stay as they are. -/
def ExtI (V : Vw) (w : World) (V' : Vw) (w' : World) : Prop :=
  ∀ b n, V.imm b n → V'.imm b n ∧ w'.cell? ⟨b, n, none⟩ = w.cell? ⟨b, n, none⟩

/-- Names of objects and tokens stay. -/
structure ExtS (V : Vw) (w : World) (V' : Vw) (w' : World) : Prop where
  nobj : V.nobj ≤ V'.nobj
  phi : ∀ id, id < V.nobj → V'.phi id = V.phi id
  ntok : V.ntok ≤ V'.ntok
  fr : ∀ g, g < V.ntok → V.fr g ≤ V'.fr g
  tb : ∀ g, g < V.ntok → V'.fr g = V.fr g → V'.tb g = V.tb g ∧ ∀ c el, w.heap[V.tb g]? = some (.cells c el (0, 0)) → ∃ c', w'.heap[V.tb g]? = some (.cells c' el (0, 0)) ∧ c'.size = c.size

/-- Names of roots stay. -/
structure ExtL (V : Vw) (V' : Vw) : Prop where
  ep : ∀ r, V.ep r ≤ V'.ep r
  lam : ∀ r, 0 < V.ep r → V'.ep r = V.ep r → V'.lam r = V.lam r

theorem OwnRel.ext {V V' : Vw} {w w' : World} {own sz len b off cap : Nat} (h : ExtS V w V' w') (ho : OwnRel V w own sz len b off cap) :
    OwnRel V' w' own sz len b off cap := by
  obtain ⟨h0, h1, h3⟩ := ho
  refine ⟨h0, h1, fun hg => ?_⟩
  obtain ⟨a1, a2, a3⟩ := h3 hg
  have f := h.fr _ a1
  refine ⟨by have := h.ntok; omega, by omega, fun e => ?_⟩
  have e' : V.fr (own - 3) = V'.fr (own - 3) := by omega
  obtain ⟨b1, b2, c, el, b3, b4⟩ := a3 (by omega)
  obtain ⟨t1, t2⟩ := h.tb _ a1 e'.symm
  obtain ⟨c', u1, u2⟩ := t2 c el (by rw [b1]; exact b3)
  exact ⟨by rw [t1, b1], b2, c', el, by rw [← b1]; exact u1, by rw [u2, b4]⟩

theorem OwnRel.closed {V V' : Vw} {w w' : World} {own sz len b off cap : Nat} (hc : own ≤ 1) (ho : OwnRel V w own sz len b off cap) :
    OwnRel V' w' own sz len b off cap := ⟨ho.1, ho.2.1, fun h => by omega⟩

mutual
theorem VRel.ext {V V' : Vw} {w w' : World} (hI : ExtI V w V' w') : ∀ (d : DVal) (m : Nat) (v : Value), (m ≤ 1 → ExtS V w V' w') → (m = 0 → ExtL V V') → VRel V w m d v → VRel V' w' m d v
  | .undef, _, _, _, _, h => by simpa only [VRel] using h
  | .bool _, _, _, _, _, h => by simpa only [VRel] using h
  | .int _ _, _, _, _, _, h => by simpa only [VRel] using h
  | .str _, _, _, _, _, h => by simpa only [VRel] using h
  | .nilp, _, _, _, _, h => by simpa only [VRel] using h
  | .nils, _, _, _, _, h => by simpa only [VRel] using h
  | .nilm, _, _, _, _, h => by simpa only [VRel] using h
  | .nilf, _, _, _, _, h => by simpa only [VRel] using h
  | .loc r ep off, _, _, _, hL, h => by
    simp only [VRel] at h ⊢
    obtain ⟨hc, h0, h1, a, rfl, h2⟩ := h
    have hr := hL hc
    refine ⟨hc, h0, Nat.le_trans h1 (hr.ep r), a, rfl, fun e => ?_⟩
    have e1 : ep = V.ep r := by have := hr.ep r; omega
    rw [h2 e1, hr.lam r (by omega) (by omega)]
  | .obj id off, _, _, hR, _, h => by
    simp only [VRel] at h ⊢
    obtain ⟨hc, h1, rfl⟩ := h
    have hr := hR hc
    exact ⟨hc, Nat.lt_of_lt_of_le h1 hr.nobj, by rw [hr.phi _ h1]⟩
  | .map id, _, _, hR, _, h => by
    simp only [VRel] at h ⊢
    obtain ⟨hc, h1, rfl⟩ := h
    have hr := hR hc
    exact ⟨hc, Nat.lt_of_lt_of_le h1 hr.nobj, by rw [hr.phi _ h1]⟩
  | .elem cs off, _, _, hR, _, h => by
    simp only [VRel] at h ⊢
    obtain ⟨hc, b, o, rfl, h1⟩ := h
    exact ⟨hc, b, o, rfl, RowRel.ext hI cs 1 b o (fun _ => hR (by omega)) (fun e => by omega) h1⟩
  | .slice pt own sz es, m, _, hR, _, h => by
    simp only [VRel] at h ⊢
    obtain ⟨hc, b, off, cap, rfl, h1, h2, h3⟩ := h
    refine ⟨hc, b, off, cap, rfl, h1, ?_, RowsRel.ext hI es (emode pt) b sz off (fun e => ?_) (fun e => ?_) h3⟩
    · rcases hc with hc | hc
      · exact h2.ext (hR hc)
      · exact h2.closed hc.2
    · rcases hc with hc | hc
      · exact hR hc
      · rw [hc.1] at e; simp [emode] at e
    · cases pt <;> simp [emode] at e
  | .func f caps, _, _, hR, _, h => by
    simp only [VRel] at h ⊢
    obtain ⟨hc, vs, rfl, h1⟩ := h
    exact ⟨hc, vs, rfl, VRels.ext hI caps 1 vs.toList (fun _ => hR hc) (fun e => by omega) h1⟩
  | .nilI, _, _, _, _, h => by simpa only [VRel] using h
  | .iface t d, m, _, hR, hL, h => by
    simp only [VRel] at h ⊢
    obtain ⟨u, rfl, h1⟩ := h
    exact ⟨u, rfl, VRel.ext hI d m u hR hL h1⟩
  | .mslice id off len cap, _, _, hR, _, h => by
    simp only [VRel] at h ⊢
    obtain ⟨hc, h1, h2, rfl⟩ := h
    have hr := hR hc
    exact ⟨hc, Nat.lt_of_lt_of_le h1 hr.nobj, h2, by rw [hr.phi _ h1]⟩
  | .agg cs, cl, _, hR, hL, h => by
    simp only [VRel] at h ⊢
    obtain ⟨vs, rfl, h1⟩ := h
    exact ⟨vs, rfl, VRels.ext hI cs cl vs.toList hR hL h1⟩
  | .tup cs, cl, _, hR, hL, h => by
    simp only [VRel] at h ⊢
    obtain ⟨vs, rfl, h1⟩ := h
    exact ⟨vs, rfl, VRels.ext hI cs cl vs.toList hR hL h1⟩
theorem VRels.ext {V V' : Vw} {w w' : World} (hI : ExtI V w V' w') : ∀ (ds : List DVal) (m : Nat) (vs : List Value), (m ≤ 1 → ExtS V w V' w') → (m = 0 → ExtL V V') → VRels V w m ds vs → VRels V' w' m ds vs
  | [], _, _, _, _, h => by simpa only [VRels] using h
  | d :: ds, cl, _, hR, hL, h => by
    simp only [VRels] at h ⊢
    obtain ⟨v, us, rfl, h1, h2⟩ := h
    exact ⟨v, us, rfl, VRel.ext hI d cl v hR hL h1, VRels.ext hI ds cl us hR hL h2⟩
theorem RowRel.ext {V V' : Vw} {w w' : World} (hI : ExtI V w V' w') : ∀ (cs : List DVal) (m : Nat) (b off : Nat), (m ≤ 1 → ExtS V w V' w') → (m = 0 → ExtL V V') → RowRel V w m b off cs → RowRel V' w' m b off cs
  | [], _, _, _, _, _, _ => by simp only [RowRel]
  | c :: cs, cl, b, off, hR, hL, h => by
    simp only [RowRel] at h ⊢
    obtain ⟨h1, ⟨v, h2, h0, h3⟩, h4⟩ := h
    exact ⟨(hI b off h1).1, ⟨v, by rw [(hI b off h1).2]; exact h2, h0, VRel.ext hI c cl v hR hL h3⟩, RowRel.ext hI cs cl b (off + 1) hR hL h4⟩
theorem RowsRel.ext {V V' : Vw} {w w' : World} (hI : ExtI V w V' w') : ∀ (es : List (List DVal)) (m : Nat) (b sz off : Nat), (m ≤ 1 → ExtS V w V' w') → (m = 0 → ExtL V V') → RowsRel V w m b sz off es → RowsRel V' w' m b sz off es
  | [], _, _, _, _, _, _, _ => by simp only [RowsRel]
  | e :: es, cl, b, sz, off, hR, hL, h => by
    simp only [RowsRel] at h ⊢
    obtain ⟨h1, h2, h3⟩ := h
    exact ⟨h1, RowRel.ext hI e cl b off hR hL h2, RowsRel.ext hI es cl b sz (off + sz) hR hL h3⟩
end

/-! Small laws of the relation -/

theorem VRels.length {V : Vw} {w : World} {cl : Nat} : ∀ {ds : List DVal} {vs : List Value}, VRels V w cl ds vs → vs.length = ds.length
  | [], _, h => by simp only [VRels] at h; simp [h]
  | d :: ds, _, h => by simp only [VRels] at h; obtain ⟨v, us, rfl, -, h2⟩ := h; simp [VRels.length h2]

theorem VRels.get {V : Vw} {w : World} {cl : Nat} : ∀ {ds : List DVal} {vs : List Value}, VRels V w cl ds vs → ∀ {i : Nat} {d : DVal}, ds[i]? = some d → ∃ v, vs[i]? = some v ∧ VRel V w cl d v
  | [], _, _, i, d, hd => by simp at hd
  | e :: ds, _, h, i, d, hd => by
    simp only [VRels] at h
    obtain ⟨v, us, rfl, h1, h2⟩ := h
    cases i with
    | zero => simp at hd; subst hd; exact ⟨v, by simp, h1⟩
    | succ i => simpa using VRels.get h2 (i := i) (by simpa using hd)

theorem VRels.drop {V : Vw} {w : World} {cl : Nat} : ∀ {ds : List DVal} {vs : List Value} (n : Nat), VRels V w cl ds vs → VRels V w cl (ds.drop n) (vs.drop n)
  | ds, vs, 0, h => by simpa using h
  | [], _, n + 1, h => by simp only [VRels] at h; simp [h, VRels]
  | d :: ds, _, n + 1, h => by
    simp only [VRels] at h
    obtain ⟨v, us, rfl, -, h2⟩ := h
    simpa using VRels.drop n h2

theorem VRels.take {V : Vw} {w : World} {cl : Nat} : ∀ {ds : List DVal} {vs : List Value} (n : Nat), VRels V w cl ds vs → VRels V w cl (ds.take n) (vs.take n)
  | ds, vs, 0, h => by simp [VRels]
  | [], _, n + 1, h => by simp only [VRels] at h; simp [h, VRels]
  | d :: ds, _, n + 1, h => by
    simp only [VRels] at h
    obtain ⟨v, us, rfl, h1, h2⟩ := h
    simp only [List.take_succ_cons, VRels]
    exact ⟨v, _, rfl, h1, VRels.take n h2⟩

theorem VRels.append {V : Vw} {w : World} {cl : Nat} : ∀ {ds es : List DVal} {vs us : List Value}, VRels V w cl ds vs → VRels V w cl es us → VRels V w cl (ds ++ es) (vs ++ us)
  | [], _, _, _, h, h' => by simp only [VRels] at h; subst h; simpa using h'
  | d :: ds, _, _, _, h, h' => by
    simp only [VRels] at h
    obtain ⟨v, ws, rfl, h1, h2⟩ := h
    simp only [List.cons_append, VRels]
    exact ⟨v, _, rfl, h1, VRels.append h2 h'⟩

theorem VRels.of_append {V : Vw} {w : World} {cl : Nat} : ∀ {ds es : List DVal} {vs : List Value}, VRels V w cl (ds ++ es) vs → ∃ us ws, vs = us ++ ws ∧ VRels V w cl ds us ∧ VRels V w cl es ws
  | [], es, vs, h => ⟨[], vs, rfl, by simp [VRels], h⟩
  | d :: ds, es, vs, h => by
    simp only [List.cons_append, VRels] at h
    obtain ⟨v, ws, rfl, h1, h2⟩ := h
    obtain ⟨us, xs, rfl, h3, h4⟩ := VRels.of_append h2
    exact ⟨v :: us, xs, rfl, by simp only [VRels]; exact ⟨v, us, rfl, h1, h3⟩, h4⟩

/-- A value's cells read as its cells. -/
theorem VRel.cells {V : Vw} {w : World} {cl : Nat} {d : DVal} {v : Value} (h : VRel V w cl d v) : VRels V w cl d.cells v.cells.toList := by
  cases d with
  | agg cs => simp only [VRel] at h; obtain ⟨vs, rfl, h1⟩ := h; exact h1
  | undef => have h' := h; simp only [VRel] at h'; obtain ⟨-, rfl⟩ := h'; exact ⟨_, [], rfl, h, rfl⟩
  | bool b => have h' := h; simp only [VRel] at h'; subst h'; exact ⟨_, [], rfl, h, rfl⟩
  | int k n => have h' := h; simp only [VRel] at h'; subst h'; exact ⟨_, [], rfl, h, rfl⟩
  | str s => have h' := h; simp only [VRel] at h'; subst h'; exact ⟨_, [], rfl, h, rfl⟩
  | nilp => have h' := h; simp only [VRel] at h'; subst h'; exact ⟨_, [], rfl, h, rfl⟩
  | nils => have h' := h; simp only [VRel] at h'; subst h'; exact ⟨_, [], rfl, h, rfl⟩
  | nilm => have h' := h; simp only [VRel] at h'; subst h'; exact ⟨_, [], rfl, h, rfl⟩
  | nilf => have h' := h; simp only [VRel] at h'; subst h'; exact ⟨_, [], rfl, h, rfl⟩
  | loc r ep off => have h' := h; simp only [VRel] at h'; obtain ⟨-, -, -, a, rfl, -⟩ := h'; exact ⟨_, [], rfl, h, rfl⟩
  | obj id off => have h' := h; simp only [VRel] at h'; obtain ⟨-, -, rfl⟩ := h'; exact ⟨_, [], rfl, h, rfl⟩
  | elem cs off => have h' := h; simp only [VRel] at h'; obtain ⟨-, b, o, rfl, -⟩ := h'; exact ⟨_, [], rfl, h, rfl⟩
  | slice pt own sz es => have h' := h; simp only [VRel] at h'; obtain ⟨-, b, off, cap, rfl, -⟩ := h'; exact ⟨_, [], rfl, h, rfl⟩
  | map id => have h' := h; simp only [VRel] at h'; obtain ⟨-, -, rfl⟩ := h'; exact ⟨_, [], rfl, h, rfl⟩
  | func f caps => have h' := h; simp only [VRel] at h'; obtain ⟨-, vs, rfl, -⟩ := h'; exact ⟨_, [], rfl, h, rfl⟩
  | tup vs => have h' := h; simp only [VRel] at h'; obtain ⟨us, rfl, -⟩ := h'; exact ⟨_, [], rfl, h, rfl⟩
  | nilI => have h' := h; simp only [VRel] at h'; subst h'; exact ⟨_, [], rfl, h, rfl⟩
  | iface t d => have h' := h; simp only [VRel] at h'; obtain ⟨u, rfl, -⟩ := h'; exact ⟨_, [], rfl, h, rfl⟩
  | mslice id off len cap => have h' := h; simp only [VRel] at h'; obtain ⟨-, -, -, rfl⟩ := h'; exact ⟨_, [], rfl, h, rfl⟩

end Go.Proofs.YtdnoonnanhnkaaaDoor
