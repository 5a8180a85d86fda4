/- The invariant that ties a state of the small language to a frame and a world, and how it is kept by the ways in which memory changes. -/
import Derived.Test.YtdnoonnanhnkaaaDoorSimRel
import Derived.Test.YtdnoonnanhnkaaaDoorSimComp
import Derived.Laws.AppendOwn
import Derived.Laws.StructEq
import Derived.WalkKit
set_option linter.unusedVariables false
namespace Go.Proofs.YtdnoonnanhnkaaaDoor
open Go

/-- A block of memory holds what a root or an object holds. -/
def ObjRel (V : Vw) (w : World) (d : DVal) (b : Nat) : Prop :=
  match d with
  | .agg cs => ∃ vs el, w.heap[b]? = some (.cells vs el (0, 0)) ∧ VRels V w 1 cs vs.toList
  | .tup [.str s, .int .i64 pos] => ∃ n : Nat, pos = n ∧ w.heap[b]? = some (.stringIter ⟨s.toArray⟩ n)
  | _ => False

structure Inv (V : Vw) (L : Nat → Nat × DVal) (σ : Sto) (w : World) : Prop where
  hB : V.B ≤ w.heap.size
  tag : ∀ b, (V.tag b).1 ≠ 0 → V.B ≤ b ∧ b < w.heap.size
  ep : ∀ r, V.ep r = (L r).1
  root : ∀ r, 0 < V.ep r → V.tag (V.lam r) = (2, r) ∧ ObjRel V w (L r).2 (V.lam r)
  nobj : V.nobj = σ.nobj
  obj : ∀ id, id < V.nobj → V.tag (V.phi id) = (3, id) ∧ ObjRel V w (σ.obj id) (V.phi id)
  ntok : V.ntok = σ.ntok
  fr : V.fr = σ.fr
  tag4 : ∀ b, (V.tag b).1 = 4 → (V.tag b).2 < V.ntok
  tok : ∀ g, g < V.ntok → V.tag (V.tb g) = (4, g) ∧ ∃ c el, w.heap[V.tb g]? = some (.cells c el (0, 0)) ∧ V.fr g ≤ c.size

/-- From one world to a later one. -/
structure Adv (V : Vw) (w : World) (V' : Vw) (w' : World) : Prop where
  ei : ExtI V w V' w'
  er : ExtS V w V' w'
  el : ExtL V V'
  B : V'.B = V.B
  zero : ∀ b, b < w.heap.size → (V.tag b).1 = 0 → (V'.tag b).1 = 0
  frame : ∀ b, b < w.heap.size → (V.tag b).1 = 0 → w'.heap[b]? = w.heap[b]?
  size : w.heap.size ≤ w'.heap.size
  os : w'.os = w.os
  tape : w'.tape = w.tape
  output : w'.output = w.output
  I0 : V'.I0 = V.I0

theorem ExtI.refl (V : Vw) (w : World) : ExtI V w V w := fun _ _ h => ⟨h, rfl⟩
theorem ExtS.refl (V : Vw) (w : World) : ExtS V w V w :=
  ⟨Nat.le_refl _, fun _ _ => rfl, Nat.le_refl _, fun _ _ => Nat.le_refl _, fun _ _ _ => ⟨rfl, fun c el h => ⟨c, h, rfl⟩⟩⟩
theorem ExtL.refl (V : Vw) : ExtL V V := ⟨fun _ => Nat.le_refl _, fun _ _ _ => rfl⟩
theorem Adv.refl (V : Vw) (w : World) : Adv V w V w := ⟨.refl V w, .refl V w, .refl V, rfl, fun _ _ h => h, fun _ _ _ => rfl, Nat.le_refl _, rfl, rfl, rfl, rfl⟩

theorem ExtI.trans {V V' V'' : Vw} {w w' w'' : World} (h : ExtI V w V' w') (h' : ExtI V' w' V'' w'') : ExtI V w V'' w'' :=
  fun b n hi => ⟨(h' b n (h b n hi).1).1, (h' b n (h b n hi).1).2.trans (h b n hi).2⟩
theorem ExtS.trans {V V' V'' : Vw} {w w' w'' : World} (h : ExtS V w V' w') (h' : ExtS V' w' V'' w'') : ExtS V w V'' w'' where
  nobj := Nat.le_trans h.nobj h'.nobj
  phi id hid := (h'.phi id (Nat.lt_of_lt_of_le hid h.nobj)).trans (h.phi id hid)
  ntok := Nat.le_trans h.ntok h'.ntok
  fr g hg := Nat.le_trans (h.fr g hg) (h'.fr g (Nat.lt_of_lt_of_le hg h.ntok))
  tb g hg e := by
    have a1 := h.fr g hg
    have a2 := h'.fr g (Nat.lt_of_lt_of_le hg h.ntok)
    obtain ⟨b1, b2⟩ := h.tb g hg (by omega)
    obtain ⟨c1, c2⟩ := h'.tb g (Nat.lt_of_lt_of_le hg h.ntok) (by omega)
    refine ⟨c1.trans b1, fun c el hc => ?_⟩
    obtain ⟨c', u1, u2⟩ := b2 c el hc
    obtain ⟨c'', v1, v2⟩ := c2 c' el (by rw [b1]; exact u1)
    exact ⟨c'', by rw [← b1]; exact v1, v2.trans u2⟩
theorem ExtL.trans {V V' V'' : Vw} (h : ExtL V V') (h' : ExtL V' V'') : ExtL V V'' where
  ep r := Nat.le_trans (h.ep r) (h'.ep r)
  lam r h0 e := by
    have a1 := h.ep r
    have a2 := h'.ep r
    rw [h'.lam r (by omega) (by omega), h.lam r h0 (by omega)]
theorem Adv.trans {V V' V'' : Vw} {w w' w'' : World} (h : Adv V w V' w') (h' : Adv V' w' V'' w'') : Adv V w V'' w'' where
  ei := h.ei.trans h'.ei
  er := h.er.trans h'.er
  el := h.el.trans h'.el
  B := h'.B.trans h.B
  zero b hb h0 := h'.zero b (Nat.lt_of_lt_of_le hb h.size) (h.zero b hb h0)
  frame b hb h0 := (h'.frame b (Nat.lt_of_lt_of_le hb h.size) (h.zero b hb h0)).trans (h.frame b hb h0)
  size := Nat.le_trans h.size h'.size
  os := h'.os.trans h.os
  tape := h'.tape.trans h.tape
  output := h'.output.trans h.output
  I0 := h'.I0.trans h.I0

theorem VRel.adv {V V' : Vw} {w w' : World} {cl : Nat} {d : DVal} {v : Value} (h : VRel V w cl d v) (ha : Adv V w V' w') : VRel V' w' cl d v :=
  VRel.ext ha.ei d cl v (fun _ => ha.er) (fun _ => ha.el) h
theorem VRels.adv {V V' : Vw} {w w' : World} {cl : Nat} {d : List DVal} {v : List Value} (h : VRels V w cl d v) (ha : Adv V w V' w') : VRels V' w' cl d v :=
  VRels.ext ha.ei d cl v (fun _ => ha.er) (fun _ => ha.el) h

def EnvRel (V : Vw) (w : World) (env : Nat → DVal) (tmps : Array Value) : Prop := ∀ s, VRel V w 0 (env s) (tmps.getD s Go.undef)

theorem EnvRel.adv {V V' : Vw} {w w' : World} {env : Nat → DVal} {t : Array Value} (h : EnvRel V w env t) (ha : Adv V w V' w') : EnvRel V' w' env t :=
  fun s => (h s).adv ha

theorem EnvRel.put {V : Vw} {w : World} {env : Nat → DVal} {t : Array Value} (h : EnvRel V w env t) {d : Nat} {x : DVal} {v : Value} (hd : d < t.size) (hx : VRel V w 0 x v) :
    EnvRel V w (upd env d x) (t.setIfInBounds d v) := by
  intro s
  by_cases hs : s = d
  · subst hs
    simpa [upd, Array.getD_eq_getD_getElem?, Array.getElem?_setIfInBounds, hd] using hx
  · have := h s
    simpa [upd, hs, Array.getD_eq_getD_getElem?, Array.getElem?_setIfInBounds, Ne.symm hs] using this

theorem ObjRel.ext {V V' : Vw} {w w' : World} {d : DVal} {b : Nat} (h : ObjRel V w d b) (hI : ExtI V w V' w') (hR : ExtS V w V' w') (hh : w'.heap[b]? = w.heap[b]?) : ObjRel V' w' d b := by
  unfold ObjRel at h ⊢
  split at h
  · obtain ⟨vs, el, h1, h2⟩ := h
    exact ⟨vs, el, by rw [hh, h1], VRels.ext hI _ _ _ (fun _ => hR) (fun e => by omega) h2⟩
  · obtain ⟨n, h1, h2⟩ := h
    exact ⟨n, h1, by rw [hh, h2]⟩
  · exact h

theorem ObjRel.lt {V : Vw} {w : World} {d : DVal} {b : Nat} (h : ObjRel V w d b) : b < w.heap.size := by
  unfold ObjRel at h
  split at h
  · obtain ⟨vs, el, h1, h2⟩ := h
    exact (Array.getElem?_eq_some_iff.1 h1).1
  · obtain ⟨n, h1, h2⟩ := h
    exact (Array.getElem?_eq_some_iff.1 h2).1
  · exact h.elim

/-! ## A new block -/

theorem heap_push_old (w : World) (o : Obj) {b : Nat} (h : b < w.heap.size) : (w.alloc o).heap[b]? = w.heap[b]? := heap_alloc_old w o h

theorem cell_push_old (w : World) (o : Obj) {b : Nat} (n : Nat) (h : b < w.heap.size) : (w.alloc o).cell? ⟨b, n, none⟩ = w.cell? ⟨b, n, none⟩ :=
  World.cell?_of_block (heap_push_old w o h)

theorem Inv.imm_lt {V : Vw} {L : Nat → Nat × DVal} {σ : Sto} {w : World} (h : Inv V L σ w) {b n : Nat} (hi : V.imm b n) : b < w.heap.size := by
  rcases hi with ⟨h1, -⟩ | ⟨h1, h2⟩
  · have := h.hB; omega
  · refine (h.tag b ?_).2
    rcases h2 with h2 | ⟨h2, -⟩ <;> omega

/-- A new block, for what t says. -/
theorem Inv.push {V : Vw} {L : Nat → Nat × DVal} {σ : Sto} {w : World} (h : Inv V L σ w) (o : Obj) (V' : Vw) (t : Nat × Nat)
    (hB : V'.B = V.B) (hI0 : V'.I0 = V.I0) (htag : V'.tag = upd V.tag w.heap.size t) (hfr : ∀ g, g < V.ntok → V'.fr g = V.fr g)
    (hnobj : V.nobj ≤ V'.nobj) (hphi : ∀ id, id < V.nobj → V'.phi id = V.phi id) (hntok : V.ntok ≤ V'.ntok) (htb : ∀ g, g < V.ntok → V'.tb g = V.tb g)
    (hep : ∀ r, V.ep r ≤ V'.ep r) (hlam : ∀ r, 0 < V.ep r → V'.ep r = V.ep r → V'.lam r = V.lam r) : Adv V w V' (w.alloc o) where
  ei b n hi := by
    have hlt := h.imm_lt hi
    refine ⟨?_, cell_push_old w o n hlt⟩
    have hne : b ≠ w.heap.size := by omega
    rcases hi with ⟨h1, h2⟩ | ⟨h1, h2⟩
    · exact .inl ⟨by rw [hB]; exact h1, by rw [hI0]; exact h2⟩
    · refine .inr ⟨by rw [hB]; exact h1, ?_⟩
      rw [htag]
      simp only [upd, hne, if_false]
      rcases h2 with h2 | ⟨h2, h3⟩
      · exact .inl h2
      · exact .inr ⟨h2, by rw [hfr _ (h.tag4 b h2)]; exact h3⟩
  er := ⟨hnobj, hphi, hntok, fun g hg => by rw [hfr g hg]; exact Nat.le_refl _, fun g hg _ => ⟨htb g hg, fun c el hc => by
      refine ⟨c, ?_, rfl⟩
      rw [heap_push_old w o (Array.getElem?_eq_some_iff.1 hc).1]
      exact hc⟩⟩
  el := ⟨hep, hlam⟩
  B := hB
  zero b hb h0 := by rw [htag]; simp only [upd]; rw [if_neg (by omega)]; exact h0
  frame b hb _ := heap_push_old w o hb
  size := by simp
  os := rfl
  tape := rfl
  output := rfl
  I0 := hI0

theorem Inv.drew {V : Vw} {L : Nat → Nat × DVal} {σ : Sto} {w : World} (h : Inv V L σ w) {w' : World} (hh : w'.heap = w.heap) (ho : w'.os = w.os) (ht : w'.tape = w.tape) (hp : w'.output = w.output) :
    Adv V w V w' ∧ Inv V L σ w' := by
  have hc : ∀ b n, w'.cell? ⟨b, n, none⟩ = w.cell? ⟨b, n, none⟩ := fun b n => World.cell?_of_block (by rw [hh])
  have hI : ExtI V w V w' := fun b n hi => ⟨hi, hc b n⟩
  have hR : ExtS V w V w' := ⟨Nat.le_refl _, fun _ _ => rfl, Nat.le_refl _, fun _ _ => Nat.le_refl _, fun _ _ _ => ⟨rfl, fun c el h => ⟨c, by rw [hh]; exact h, rfl⟩⟩⟩
  refine ⟨⟨hI, hR, .refl V, rfl, fun _ _ h => h, fun b _ _ => by rw [hh], by rw [hh]; exact Nat.le_refl _, ho, ht, hp, rfl⟩, ?_⟩
  exact { h with
    hB := by rw [hh]; exact h.hB
    tag := fun b hb => by rw [hh]; exact h.tag b hb
    root := fun r hr => ⟨(h.root r hr).1, (h.root r hr).2.ext hI hR (by rw [hh])⟩
    obj := fun id hid => ⟨(h.obj id hid).1, (h.obj id hid).2.ext hI hR (by rw [hh])⟩
    tok := fun g hg => by rw [hh]; exact h.tok g hg }

/-- The blocks of roots, objects and tokens are there. -/
theorem Inv.root_lt {V : Vw} {L : Nat → Nat × DVal} {σ : Sto} {w : World} (h : Inv V L σ w) {r : Nat} (hr : 0 < V.ep r) : V.lam r < w.heap.size := (h.root r hr).2.lt
theorem Inv.obj_lt {V : Vw} {L : Nat → Nat × DVal} {σ : Sto} {w : World} (h : Inv V L σ w) {id : Nat} (hr : id < V.nobj) : V.phi id < w.heap.size := (h.obj id hr).2.lt
theorem Inv.tok_lt {V : Vw} {L : Nat → Nat × DVal} {σ : Sto} {w : World} (h : Inv V L σ w) {g : Nat} (hr : g < V.ntok) : V.tb g < w.heap.size := by
  obtain ⟨-, c, el, h1, -⟩ := h.tok g hr
  exact (Array.getElem?_eq_some_iff.1 h1).1

/-- What is left to say of the invariant behind a new block. -/
theorem Inv.pushed {V : Vw} {L L' : Nat → Nat × DVal} {σ σ' : Sto} {w : World} (h : Inv V L σ w) (o : Obj) (V' : Vw) (t : Nat × Nat) (ha : Adv V w V' (w.alloc o))
    (htag : V'.tag = upd V.tag w.heap.size t) (ht4 : t.1 = 4 → t.2 < V'.ntok)
    (hep : ∀ r, V'.ep r = (L' r).1) (hroot : ∀ r, 0 < V'.ep r → (V'.lam r = w.heap.size ∧ t = (2, r) ∧ ObjRel V' (w.alloc o) (L' r).2 w.heap.size) ∨ (0 < V.ep r ∧ V'.lam r = V.lam r ∧ L' r = L r))
    (hnobj : V'.nobj = σ'.nobj) (hobj : ∀ id, id < V'.nobj → (V'.phi id = w.heap.size ∧ t = (3, id) ∧ ObjRel V' (w.alloc o) (σ'.obj id) w.heap.size) ∨ (id < V.nobj ∧ V'.phi id = V.phi id ∧ σ'.obj id = σ.obj id))
    (hntok : V'.ntok = σ'.ntok) (hfr : V'.fr = σ'.fr)
    (htok : ∀ g, g < V'.ntok → (V'.tb g = w.heap.size ∧ t = (4, g) ∧ ∃ c el, o = .cells c el (0, 0) ∧ V'.fr g ≤ c.size) ∨ (g < V.ntok ∧ V'.tb g = V.tb g ∧ V'.fr g = V.fr g)) : Inv V' L' σ' (w.alloc o) where
  hB := by rw [ha.B]; have := h.hB; simp; omega
  tag b hb := by
    rw [htag] at hb
    rw [ha.B]
    simp only [upd] at hb
    simp only [World.size_alloc]
    split at hb
    · have := h.hB; omega
    · have := h.tag b hb; omega
  ep := hep
  root r hr := by
    rcases hroot r hr with ⟨h1, h2, h3⟩ | ⟨h1, h2, h3⟩
    · rw [h1, htag]; exact ⟨by simp [upd, h2], h3⟩
    · have hl := h.root_lt h1
      rw [h2, h3, htag]
      refine ⟨by simp only [upd]; rw [if_neg (by omega)]; exact (h.root r h1).1, (h.root r h1).2.ext ha.ei ha.er (heap_push_old w o hl)⟩
  nobj := hnobj
  obj id hid := by
    rcases hobj id hid with ⟨h1, h2, h3⟩ | ⟨h1, h2, h3⟩
    · rw [h1, htag]; exact ⟨by simp [upd, h2], h3⟩
    · have hl := h.obj_lt h1
      rw [h2, h3, htag]
      refine ⟨by simp only [upd]; rw [if_neg (by omega)]; exact (h.obj id h1).1, (h.obj id h1).2.ext ha.ei ha.er (heap_push_old w o hl)⟩
  ntok := hntok
  fr := hfr
  tag4 b hb := by
    rw [htag] at hb ⊢
    simp only [upd] at hb ⊢
    split at hb
    · rename_i e
      simp only [e, if_true]
      exact ht4 hb
    · rename_i e
      simp only [e, if_false]
      exact Nat.lt_of_lt_of_le (h.tag4 b hb) ha.er.ntok
  tok g hg := by
    rcases htok g hg with ⟨h1, h2, c, el, h3, h4⟩ | ⟨h1, h2, h3⟩
    · rw [h1, htag]; exact ⟨by simp [upd, h2], c, el, by rw [heap_alloc_new, h3], h4⟩
    · have hl := h.tok_lt h1
      obtain ⟨k1, c, el, k2, k3⟩ := h.tok g h1
      rw [h2, h3, htag]
      refine ⟨by simp only [upd]; rw [if_neg (by omega)]; exact k1, c, el, by rw [heap_push_old w o hl]; exact k2, k3⟩

/-- A new array that is never written. -/
theorem Inv.newImm {V : Vw} {L : Nat → Nat × DVal} {σ : Sto} {w : World} (h : Inv V L σ w) (o : Obj) :
    Adv V w { V with tag := upd V.tag w.heap.size (1, 0) } (w.alloc o) ∧ Inv { V with tag := upd V.tag w.heap.size (1, 0) } L σ (w.alloc o) := by
  have ha := h.push o { V with tag := upd V.tag w.heap.size (1, 0) } (1, 0) rfl rfl rfl (fun _ _ => rfl) (Nat.le_refl _) (fun _ _ => rfl) (Nat.le_refl _) (fun _ _ => rfl) (fun _ => Nat.le_refl _) (fun _ _ _ => rfl)
  exact ⟨ha, h.pushed o _ (1, 0) ha rfl (fun e => by simp at e) h.ep (fun r hr => .inr ⟨hr, rfl, rfl⟩) h.nobj (fun id hid => .inr ⟨hid, rfl, rfl⟩) h.ntok h.fr (fun g hg => .inr ⟨hg, rfl, rfl⟩)⟩

/-- A new local variable. -/
theorem Inv.newRoot {V : Vw} {L : Nat → Nat × DVal} {σ : Sto} {w : World} (h : Inv V L σ w) (r : Nat) (o : Obj) (d : DVal)
    (ho : ∀ V' w', Adv V w V' w' → w'.heap[w.heap.size]? = some o → ObjRel V' w' d w.heap.size) :
    ∃ V', Adv V w V' (w.alloc o) ∧ Inv V' (upd L r ((L r).1 + 1, d)) σ (w.alloc o) ∧ VRel V' (w.alloc o) 0 (.loc r ((L r).1 + 1) 0) (.pointer (some ⟨w.heap.size, 0, none⟩)) := by
  have he := h.ep r
  have ha := h.push o { V with tag := upd V.tag w.heap.size (2, r), lam := upd V.lam r w.heap.size, ep := upd V.ep r (V.ep r + 1) } (2, r) rfl rfl rfl (fun _ _ => rfl) (Nat.le_refl _) (fun _ _ => rfl) (Nat.le_refl _) (fun _ _ => rfl)
    (fun q => by simp only [upd]; split <;> simp_all) (fun q h0 hq => by simp only [upd] at hq ⊢; split <;> simp_all)
  refine ⟨_, ha, h.pushed o _ (2, r) ha rfl (fun e => by simp at e) ?_ ?_ h.nobj (fun id hid => .inr ⟨hid, rfl, rfl⟩) h.ntok h.fr (fun g hg => .inr ⟨hg, rfl, rfl⟩), ?_⟩
  · intro q
    simp only [upd]
    split
    · rw [he]
    · exact h.ep q
  · intro q hq
    simp only [upd] at hq ⊢
    by_cases e : q = r
    · subst e
      simp only [if_true]
      exact .inl ⟨by trivial, by trivial, ho _ _ ha (heap_alloc_new w o)⟩
    · simp only [e, if_false] at hq ⊢
      exact .inr ⟨hq, by trivial, by trivial⟩
  · simp only [VRel, upd, if_true]
    exact ⟨trivial, by omega, by rw [he]; exact Nat.le_refl _, _, rfl, fun _ => rfl⟩

/-- A new object. -/
theorem Inv.newObj {V : Vw} {L : Nat → Nat × DVal} {σ : Sto} {w : World} (h : Inv V L σ w) (o : Obj) (d : DVal)
    (ho : ∀ V' w', Adv V w V' w' → w'.heap[w.heap.size]? = some o → ObjRel V' w' d w.heap.size) :
    ∃ V', Adv V w V' (w.alloc o) ∧ Inv V' L { σ with nobj := σ.nobj + 1, obj := upd σ.obj σ.nobj d } (w.alloc o) ∧ V'.nobj = σ.nobj + 1 ∧ V'.phi σ.nobj = w.heap.size := by
  have he := h.nobj
  have ha := h.push o { V with tag := upd V.tag w.heap.size (3, σ.nobj), phi := upd V.phi σ.nobj w.heap.size, nobj := σ.nobj + 1 } (3, σ.nobj) rfl rfl rfl (fun _ _ => rfl) (by rw [he]; exact Nat.le_succ _)
    (fun id hid => by simp only [upd]; rw [if_neg (by omega)]) (Nat.le_refl _) (fun _ _ => rfl) (fun _ => Nat.le_refl _) (fun _ _ _ => rfl)
  refine ⟨_, ha, h.pushed o _ (3, σ.nobj) ha rfl (fun e => by simp at e) h.ep (fun r hr => .inr ⟨hr, rfl, rfl⟩) rfl ?_ h.ntok h.fr (fun g hg => .inr ⟨hg, rfl, rfl⟩), rfl, by simp [upd]⟩
  intro id hid
  simp only [upd] at hid ⊢
  by_cases e : id = σ.nobj
  · subst e
    simp only [if_true]
    exact .inl ⟨by trivial, by trivial, ho _ _ ha (heap_alloc_new w o)⟩
  · simp only [e, if_false]
    exact .inr ⟨by have : id < σ.nobj + 1 := hid; omega, by trivial, by trivial⟩

/-- A new array with a token of its own. -/
theorem Inv.newTok {V : Vw} {L : Nat → Nat × DVal} {σ : Sto} {w : World} (h : Inv V L σ w) (c : Array Value) (el : TypeId) (n : Nat) (hn : n ≤ c.size) :
    ∃ V', Adv V w V' (w.alloc (.cells c el)) ∧ Inv V' L { σ with ntok := σ.ntok + 1, fr := upd σ.fr σ.ntok n } (w.alloc (.cells c el)) ∧ V'.ntok = σ.ntok + 1 ∧ V'.tb σ.ntok = w.heap.size ∧ V'.fr = upd V.fr σ.ntok n ∧ V'.tag = upd V.tag w.heap.size (4, σ.ntok) := by
  have he := h.ntok
  have ha := h.push (.cells c el) { V with tag := upd V.tag w.heap.size (4, σ.ntok), tb := upd V.tb σ.ntok w.heap.size, ntok := σ.ntok + 1, fr := upd V.fr σ.ntok n } (4, σ.ntok) rfl rfl rfl
    (fun g hg => by simp only [upd]; rw [if_neg (by omega)]) (Nat.le_refl _) (fun _ _ => rfl) (by rw [he]; exact Nat.le_succ _)
    (fun g hg => by simp only [upd]; rw [if_neg (by omega)]) (fun _ => Nat.le_refl _) (fun _ _ _ => rfl)
  refine ⟨_, ha, h.pushed (.cells c el) _ (4, σ.ntok) ha rfl (fun _ => Nat.lt_succ_self _) h.ep (fun r hr => .inr ⟨hr, rfl, rfl⟩) h.nobj (fun id hid => .inr ⟨hid, rfl, rfl⟩) rfl (by rw [h.fr]) ?_, rfl, by simp [upd], rfl, rfl⟩
  intro g hg
  simp only [upd] at hg ⊢
  by_cases e : g = σ.ntok
  · subst e
    simp only [if_true]
    exact .inl ⟨by trivial, by trivial, c, el, rfl, hn⟩
  · simp only [e, if_false]
    exact .inr ⟨by have : g < σ.ntok + 1 := hg; omega, by trivial, by trivial⟩

/-! ## A block that is written -/

/-- One block alone may differ. -/
structure Upd1 (w w' : World) (b : Nat) : Prop where
  other : ∀ k, k ≠ b → w'.heap[k]? = w.heap[k]?
  size : w'.heap.size = w.heap.size
  os : w'.os = w.os
  tape : w'.tape = w.tape
  output : w'.output = w.output

theorem Upd1.setRow (w : World) (b : Nat) (c : Array Value) : Upd1 w (w.setRow b c) b :=
  ⟨fun k hk => setRow_other w b k c hk, by simp [World.setRow], rfl, rfl, rfl⟩

theorem Upd1.cell {w w' : World} {b0 : Nat} (h : Upd1 w w' b0) {b : Nat} (hb : b ≠ b0) (n : Nat) : w'.cell? ⟨b, n, none⟩ = w.cell? ⟨b, n, none⟩ :=
  World.cell?_of_block (h.other b hb)

theorem Inv.atBlock {V : Vw} {L : Nat → Nat × DVal} {σ : Sto} {w w' : World} (h : Inv V L σ w) {b0 : Nat} (ht : (V.tag b0).1 = 2 ∨ (V.tag b0).1 = 3) (hw : Upd1 w w' b0) : Adv V w V w' where
  ei b n hi := by
    refine ⟨hi, hw.cell ?_ n⟩
    rintro rfl
    rcases hi with ⟨h1, -⟩ | ⟨-, h2⟩
    · have := (h.tag b (by omega)).1; omega
    · rcases h2 with h2 | ⟨h2, -⟩ <;> omega
  er := ⟨Nat.le_refl _, fun _ _ => rfl, Nat.le_refl _, fun _ _ => Nat.le_refl _, fun g hg _ => ⟨rfl, fun c el hc => by
      refine ⟨c, ?_, rfl⟩
      rw [hw.other _ (fun e => by have := (h.tok g hg).1; rw [e] at this; rw [this] at ht; simp at ht)]
      exact hc⟩⟩
  el := .refl V
  B := rfl
  zero _ _ h0 := h0
  frame b hb h0 := hw.other b (fun e => by subst e; omega)
  size := by rw [hw.size]; exact Nat.le_refl _
  os := hw.os
  tape := hw.tape
  output := hw.output
  I0 := rfl

theorem Inv.setRoot {V : Vw} {L : Nat → Nat × DVal} {σ : Sto} {w w' : World} (h : Inv V L σ w) {r : Nat} (hr : 0 < V.ep r) (hw : Upd1 w w' (V.lam r)) {d : DVal} (hd : ObjRel V w' d (V.lam r)) :
    Adv V w V w' ∧ Inv V (upd L r ((L r).1, d)) σ w' := by
  have ht := (h.root r hr).1
  have ha := h.atBlock (b0 := V.lam r) (.inl (by rw [ht])) hw
  refine ⟨ha, { h with hB := by rw [hw.size]; exact h.hB, tag := fun b hb => by rw [hw.size]; exact h.tag b hb, ep := fun q => ?_, root := fun q hq => ?_, obj := fun id hid => ⟨(h.obj id hid).1, (h.obj id hid).2.ext ha.ei ha.er (hw.other _ fun e => ?_)⟩, tok := fun g hg => ?_ }⟩
  · simp only [upd]
    split
    · rename_i e; rw [e]; exact h.ep r
    · exact h.ep q
  · refine ⟨(h.root q hq).1, ?_⟩
    simp only [upd]
    split
    · rename_i e; rw [e]; exact hd
    · rename_i e
      refine (h.root q hq).2.ext ha.ei ha.er (hw.other _ fun e' => ?_)
      have h1 := (h.root q hq).1
      rw [e', ht] at h1
      simp at h1
      exact e h1.symm
  · have h1 := (h.obj id hid).1
    rw [e, ht] at h1
    simp at h1
  · obtain ⟨k1, c, el, k2, k3⟩ := h.tok g hg
    refine ⟨k1, c, el, ?_, k3⟩
    rw [hw.other _ fun e => ?_]
    · exact k2
    · rw [e, ht] at k1
      simp at k1

theorem Inv.setObj {V : Vw} {L : Nat → Nat × DVal} {σ : Sto} {w w' : World} (h : Inv V L σ w) {id : Nat} (hr : id < V.nobj) (hw : Upd1 w w' (V.phi id)) {d : DVal} (hd : ObjRel V w' d (V.phi id)) :
    Adv V w V w' ∧ Inv V L { σ with obj := upd σ.obj id d } w' := by
  have ht := (h.obj id hr).1
  have ha := h.atBlock (b0 := V.phi id) (.inr (by rw [ht])) hw
  refine ⟨ha, { h with hB := by rw [hw.size]; exact h.hB, tag := fun b hb => by rw [hw.size]; exact h.tag b hb, root := fun q hq => ⟨(h.root q hq).1, (h.root q hq).2.ext ha.ei ha.er (hw.other _ fun e => ?_)⟩, obj := fun q hq => ?_, tok := fun g hg => ?_ }⟩
  · have h1 := (h.root q hq).1
    rw [e, ht] at h1
    simp at h1
  · refine ⟨(h.obj q hq).1, ?_⟩
    simp only [upd]
    split
    · rename_i e; rw [e]; exact hd
    · rename_i e
      refine (h.obj q hq).2.ext ha.ei ha.er (hw.other _ fun e' => ?_)
      have h1 := (h.obj q hq).1
      rw [e', ht] at h1
      simp at h1
      exact e h1.symm
  · obtain ⟨k1, c, el, k2, k3⟩ := h.tok g hg
    refine ⟨k1, c, el, ?_, k3⟩
    rw [hw.other _ fun e => ?_]
    · exact k2
    · rw [e, ht] at k1
      simp at k1

/-- The array of a token, extended in place. -/
theorem Inv.extend {V : Vw} {L : Nat → Nat × DVal} {σ : Sto} {w w' : World} (h : Inv V L σ w) {g : Nat} (hg : g < V.ntok) (hw : Upd1 w w' (V.tb g)) {c c' : Array Value} {el : TypeId} (hc : w.heap[V.tb g]? = some (.cells c el (0, 0)))
    (hc' : w'.heap[V.tb g]? = some (.cells c' el (0, 0))) (hs : c'.size = c.size) (hsame : ∀ i, i < V.fr g → c'[i]? = c[i]?) {f : Nat} (hf : V.fr g ≤ f) (hfs : f ≤ c.size) :
    Adv V w { V with fr := upd V.fr g f } w' ∧ Inv { V with fr := upd V.fr g f } L { σ with fr := upd σ.fr g f } w' := by
  have ht := (h.tok g hg).1
  have hfr : ∀ q, V.fr q ≤ upd V.fr g f q := fun q => by simp only [upd]; split <;> simp_all
  have ha : Adv V w { V with fr := upd V.fr g f } w' := by
    refine ⟨fun b n hi => ⟨?_, ?_⟩, ⟨Nat.le_refl _, fun _ _ => rfl, Nat.le_refl _, fun q _ => hfr q, fun q hq _ => ⟨rfl, fun d e hd => ?_⟩⟩, ⟨fun _ => Nat.le_refl _, fun _ _ _ => rfl⟩, rfl, fun _ _ h0 => h0, fun b hb h0 => hw.other b (fun e => ?_), by rw [hw.size]; exact Nat.le_refl _, hw.os, hw.tape, hw.output, rfl⟩
    · rcases hi with h1 | ⟨h1, h2 | ⟨h2, h3⟩⟩
      · exact .inl h1
      · exact .inr ⟨h1, .inl h2⟩
      · exact .inr ⟨h1, .inr ⟨h2, Nat.lt_of_lt_of_le h3 (hfr _)⟩⟩
    · by_cases e : b = V.tb g
      · subst e
        rw [cell_of_row w _ _ _ _ _ hc, cell_of_row w' _ _ _ _ _ hc']
        refine hsame n ?_
        rcases hi with ⟨h1, -⟩ | ⟨-, h2 | ⟨-, h3⟩⟩
        · have := (h.tag (V.tb g) (by rw [ht]; simp)).1; omega
        · rw [ht] at h2; simp at h2
        · rw [ht] at h3; exact h3
      · exact hw.cell e n
    · by_cases e' : q = g
      · subst e'
        rw [hc] at hd
        simp only [Option.some.injEq, Obj.cells.injEq] at hd
        obtain ⟨rfl, rfl, -⟩ := hd
        exact ⟨c', hc', hs⟩
      · refine ⟨d, ?_, rfl⟩
        rw [hw.other _ fun e2 => ?_]
        · exact hd
        · have h1 := (h.tok q hq).1
          rw [e2, ht] at h1
          simp at h1
          exact e' h1.symm
    · rw [e, ht] at h0; simp at h0
  refine ⟨ha, { h with hB := by rw [hw.size]; exact h.hB, tag := fun b hb => by rw [hw.size]; exact h.tag b hb, fr := by rw [h.fr], root := fun q hq => ⟨(h.root q hq).1, (h.root q hq).2.ext ha.ei ha.er (hw.other _ fun e => ?_)⟩, obj := fun q hq => ⟨(h.obj q hq).1, (h.obj q hq).2.ext ha.ei ha.er (hw.other _ fun e => ?_)⟩, tok := fun q hq => ?_ }⟩
  · have h1 := (h.root q hq).1
    rw [e, ht] at h1
    simp at h1
  · have h1 := (h.obj q hq).1
    rw [e, ht] at h1
    simp at h1
  · obtain ⟨k1, d, e, k2, k3⟩ := h.tok q hq
    refine ⟨k1, ?_⟩
    by_cases e' : q = g
    · subst e'
      exact ⟨c', el, hc', by simp only [upd, if_true]; omega⟩
    · refine ⟨d, e, ?_, by simp only [upd, e', if_false]; exact k3⟩
      show w'.heap[V.tb q]? = _
      rw [hw.other _ fun e2 => ?_]
      · exact k2
      · rw [e2, ht] at k1
        simp at k1
        exact e' k1.symm

/-- The array of a token, moved to a new block. -/
theorem Inv.regrow {V : Vw} {L : Nat → Nat × DVal} {σ : Sto} {w : World} (h : Inv V L σ w) {g : Nat} (hg : g < V.ntok) (c : Array Value) (el : TypeId) {f : Nat} (hf : V.fr g < f) (hfs : f ≤ c.size) :
    ∃ V', Adv V w V' (w.alloc (.cells c el)) ∧ Inv V' L { σ with fr := upd σ.fr g f } (w.alloc (.cells c el)) ∧ V'.ntok = V.ntok ∧ V'.tb g = w.heap.size ∧ V'.fr g = f ∧ V'.tag w.heap.size = (4, g) ∧ V'.B = V.B := by
  have ht := (h.tok g hg).1
  have hlt := h.tok_lt hg
  let V' : Vw := { V with tag := upd (upd V.tag (V.tb g) (1, 0)) w.heap.size (4, g), tb := upd V.tb g w.heap.size, fr := upd V.fr g f }
  have hfr : ∀ q, V.fr q ≤ V'.fr q := fun q => by simp only [V', upd]; split <;> simp_all <;> omega
  have ho : ∀ b, b < w.heap.size → (w.alloc (.cells c el)).heap[b]? = w.heap[b]? := fun b hb => heap_push_old w _ hb
  have htag : ∀ b, b < w.heap.size → b ≠ V.tb g → V'.tag b = V.tag b := fun b hb hne => by simp only [V', upd]; rw [if_neg (by omega), if_neg hne]
  have ha : Adv V w V' (w.alloc (.cells c el)) := by
    refine ⟨fun b n hi => ⟨?_, cell_push_old w _ n (h.imm_lt hi)⟩, ⟨Nat.le_refl _, fun _ _ => rfl, Nat.le_refl _, fun q _ => hfr q, fun q hq e => ?_⟩, ⟨fun _ => Nat.le_refl _, fun _ _ _ => rfl⟩, rfl, fun b hb h0 => ?_, fun b hb _ => ho b hb, by simp, rfl, rfl, rfl, rfl⟩
    · have hb := h.imm_lt hi
      by_cases e : b = V.tb g
      · subst e
        refine .inr ⟨(h.tag (V.tb g) (by rw [ht]; simp)).1, .inl ?_⟩
        simp only [V', upd]
        rw [if_neg (by omega)]
        simp
      · rcases hi with h1 | ⟨h1, h2 | ⟨h2, h3⟩⟩
        · exact .inl h1
        · exact .inr ⟨h1, .inl (by rw [htag b hb e]; exact h2)⟩
        · exact .inr ⟨h1, .inr ⟨by rw [htag b hb e]; exact h2, by rw [htag b hb e]; exact Nat.lt_of_lt_of_le h3 (hfr _)⟩⟩
    · have hne : q ≠ g := by rintro rfl; simp only [V', upd, if_true] at e; omega
      refine ⟨by simp only [V', upd, hne, if_false], fun d x hd => ⟨d, ?_, rfl⟩⟩
      rw [ho _ (Array.getElem?_eq_some_iff.1 hd).1]
      exact hd
    · rw [htag b hb ?_]
      · exact h0
      · rintro rfl; rw [ht] at h0; simp at h0
  refine ⟨V', ha, ?_, rfl, by simp [V', upd], by simp [V', upd], by simp [V', upd], rfl⟩
  constructor
  · show V.B ≤ _
    have := h.hB; simp; omega
  · intro b hb
    show V.B ≤ b ∧ _
    simp only [World.size_alloc]
    simp only [V', upd] at hb
    split at hb
    · have := h.hB; omega
    · split at hb
      · rename_i e; rw [e]
        have := h.tag (V.tb g) (by rw [ht]; simp)
        omega
      · have := h.tag b hb; omega
  · exact h.ep
  · intro r hr
    have hl := h.root_lt hr
    refine ⟨?_, (h.root r hr).2.ext ha.ei ha.er (ho _ hl)⟩
    show V'.tag (V.lam r) = _
    rw [htag _ hl fun e => ?_]
    · exact (h.root r hr).1
    · have h1 := (h.root r hr).1
      rw [e, ht] at h1
      simp at h1
  · exact h.nobj
  · intro r hr
    have hl := h.obj_lt hr
    refine ⟨?_, (h.obj r hr).2.ext ha.ei ha.er (ho _ hl)⟩
    show V'.tag (V.phi r) = _
    rw [htag _ hl fun e => ?_]
    · exact (h.obj r hr).1
    · have h1 := (h.obj r hr).1
      rw [e, ht] at h1
      simp at h1
  · exact h.ntok
  · show upd V.fr g f = upd σ.fr g f
    rw [h.fr]
  · intro b hb
    show (V'.tag b).2 < V.ntok
    simp only [V', upd] at hb ⊢
    split at hb
    · rename_i e; simp only [e, if_true]; exact hg
    · rename_i e
      simp only [e, if_false]
      split at hb
      · simp at hb
      · rename_i e2; simp only [e2, if_false]; exact h.tag4 b hb
  · intro q hq
    by_cases e : q = g
    · subst e
      refine ⟨by simp [V', upd], c, el, ?_, by simp only [V', upd, if_true]; exact hfs⟩
      simp only [V', upd, if_true]
      exact heap_alloc_new w _
    · have hl := h.tok_lt (g := q) hq
      obtain ⟨k1, d, x, k2, k3⟩ := h.tok q hq
      have hv : V'.tb q = V.tb q := by simp only [V', upd, e, if_false]
      rw [hv]
      refine ⟨?_, d, x, by rw [ho _ hl]; exact k2, by simp only [V', upd, e, if_false]; exact k3⟩
      rw [htag _ hl fun e2 => ?_]
      · exact k1
      · rw [e2, ht] at k1
        simp at k1
        exact e k1.symm

end Go.Proofs.YtdnoonnanhnkaaaDoor
