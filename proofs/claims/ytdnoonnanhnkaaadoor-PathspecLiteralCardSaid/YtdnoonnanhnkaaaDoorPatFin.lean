/- From a law's call in trees to what its row asks, for this seat; and the world that the rows' witnesses start in. -/
import Derived.Test.YtdnoonnanhnkaaaDoorPatOk
import Derived.Test.YtdnoonnanhnkaaaDoorGlue
import Derived.Test.YtdnoonnanhnkaaaDoorTie
import Derived.Test.YtdnoonnanhnkaaaDoorCards
import Derived.ProofKit
import Derived.OpenShut
import Derived.Deep.DeepHandedRow
set_option linter.unusedVariables false
set_option maxRecDepth 100000
namespace Go.Proofs.YtdnoonnanhnkaaaDoor
open Go Go.ChangeShapes Go.WideShapes Go.ChangeAt Go.RowKit

theorem own : ownKnob Tryd.prog.godebug = none := by kernel_rfl
theorem laidOut : laidOutB Tryd.prog = true := by kernel_rfl

theorem maxLenCell {W : World} (h : W.ShapedOpen Tryd.prog) : ∃ m, W.cell? ⟨0, 0, none⟩ = some (.int .i64 m) :=
  cell_of_shapedOpen_int (zero := #[.int .i64 0]) (t := 3) h (of_decide_eq_true (by kernel_rfl)) (by kernel_rfl) rfl (by kernel_rfl) (by kernel_rfl) Tryd.underlying3

/-- A call in trees comes about. -/
theorem call_true {f : Nat} {fn : Func} (hfn : Tryd.prog.funcs[f]? = some fn) {n : Nat} (hlaw : ∀ Ds, DTyArgs Tryd.prog fn.params.toList Ds → cpJ PR n f Ds = some (.bool true))
    (hp : fn.params.toList.all (plainT Tryd.prog 20) = true) (hf : fn.params.toList.all (flatS Tryd.prog 20) = true)
    {H : Type} {enc : TypeId × Value → H} {W : World} {base : Nat} {args : Array Value} {ds : List (DataW H)} {p : List MemPlace}
    (hval : ∀ (j : Nat) t v, fn.params[j]? = some t → args[j]? = some v → Value.okWide Tryd.prog W .any base t v)
    (hA : DataW.TrodAll enc Tryd.prog W 0 (fun _ => true) true fn.params.toList args.toList ds p) (hsh : W.ShapedOpen Tryd.prog) :
    Calls Tryd.prog f args W fun e W' => e = .returned (.bool true) ∧ Below W.heap.size W W' := by
  obtain ⟨m, hm⟩ := maxLenCell hsh
  obtain ⟨Ds, h1, h2⟩ := args_rel (w := W) (base := base) hp hf (fun j t v ht hv => hval j t v (by simpa using ht) (by simpa using hv)) hA
  have hb : (0 : Nat) < W.heap.size := by
    unfold World.cell? at hm
    simp only at hm
    split at hm
    · rename_i hh; exact (Array.getElem?_eq_some_iff.1 hh).1
    · cases hm
  have hG : HasG [(0, .int .i64 m)] (oldI W) W := by
    intro x hx
    simp only [List.mem_singleton] at hx
    subst hx
    exact ⟨hb, hm⟩
  have := ((allJ_sound (table_ok m) n).1 f (oldI W) W Ds args.toList (.bool true) (fun b k h => h) hG h2 (hlaw Ds h1)).2
  refine (by simpa using this : Calls Tryd.prog f args W _).mono ?_
  rintro e W' ⟨v, rfl, hbel, hrel⟩
  simp only [HRel, VRel] at hrel
  exact ⟨by rw [hrel], hbel⟩

/-- What a row asks of the call, for every argument. -/
theorem contract {f : Nat} {fn : Func} {s : ChangeSpec} (hfn : Tryd.prog.funcs[f]? = some fn) {n : Nat} (hlaw : ∀ Ds, DTyArgs Tryd.prog fn.params.toList Ds → cpJ PR n f Ds = some (.bool true))
    (hp : fn.params.toList.all (plainT Tryd.prog 20) = true) (hf : fn.params.toList.all (flatS Tryd.prog 20) = true) (hres : fn.resultTypes = #[4]) (hvars : s.vars = [])
    (hspec : ∀ (H : Type) (ds : List (DataW H)), ds.length = fn.params.toList.length → s.fn H ds = { results := [.lit (.bool true)], args := ds, vars := [] })
    (ht : ∀ t, t ∈ fn.params.toList → Tryd.prog.readableRec t = true ∧ t < Tryd.prog.types.size)
    {H : Type} {enc : TypeId × Value → H} {W : World} {base : Nat} {args : Array Value} {ds gs : List (DataW H)} {before : List MemPlace}
    (hval : ∀ (j : Nat) t v, fn.params[j]? = some t → args[j]? = some v → Value.okWide Tryd.prog W .any base t v)
    (hW : DataW.Whole enc Tryd.prog fn.params.toList s.vars false W args.toList ds gs before) (hsh : W.ShapedOpen Tryd.prog) :
    Calls Tryd.prog f args W fun e W' => ∃ v, e = .returned v ∧ s.post enc Tryd.prog fn false true false false W args v W' := by
  obtain ⟨p, q, hA, hV, hpq, hz, hn⟩ := id hW
  have hg : gs = [] := by
    rw [hvars] at hV
    cases gs with
    | nil => rfl
    | cons g gs => exact hV.elim
  subst hg
  have hlen : ds.length = fn.params.toList.length := by
    have : ∀ {ts : List TypeId} {vs : List Value} {ds : List (DataW H)} {p : List MemPlace}, DataW.TrodAll enc Tryd.prog W 0 (fun _ => true) true ts vs ds p → ds.length = ts.length := by
      intro ts
      induction ts with
      | nil => intro vs ds p h; cases vs <;> cases ds <;> first | rfl | exact h.elim
      | cons t ts ih =>
        intro vs ds p h
        cases vs with
        | nil => exact h.elim
        | cons v vs =>
          cases ds with
          | nil => exact h.elim
          | cons d ds => obtain ⟨p1, q1, -, h2, -⟩ := h; simp [ih h2]
    exact this hA
  refine (call_true hfn hlaw hp hf hval hA hsh).mono ?_
  rintro e W' ⟨rfl, hb⟩
  exact ⟨_, rfl, post_of_true hW hvars hres Tryd.underlying4 (by rw [List.append_nil]; exact hspec H ds hlen) laidOut ht hb⟩

/-- The tables that the rows list. -/
def firstCells : Array Value := (Go.Pinned.utf8FirstZ.map fun (n : Nat) => Value.int .u8 (n : Int)).toArray
def acceptCells : Array Value := ([128, 191, 160, 191, 128, 159, 144, 191, 128, 143, 0, 0, 0, 0, 0, 0, 0, 0, 0, 0, 0, 0, 0, 0, 0, 0, 0, 0, 0, 0, 0, 0].map fun n => Value.int .u8 n).toArray
def withCells (c : Array Value) : Obj → Obj
  | .cells _ t frozen => .cells c t frozen
  | o => o
/-- A world for the witness: the settled one; blocks 1 and 2 hold what the rows list. -/
noncomputable def laidWorld (os : Os) : World :=
  { World.holding Tryd.prog os ⟨#[], #[], []⟩ with heap := ((World.holding Tryd.prog os ⟨#[], #[], []⟩).heap.modify 1 (withCells firstCells)).modify 2 (withCells acceptCells) }

end Go.Proofs.YtdnoonnanhnkaaaDoor
