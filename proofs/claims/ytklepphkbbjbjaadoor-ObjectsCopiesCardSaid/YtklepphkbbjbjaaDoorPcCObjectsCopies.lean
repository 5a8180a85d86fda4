/- The law ObjectsCopies is proved: for every input the call returns true, and each argument reads afterwards as it read before; condition: the listed package variables start as the program lays them. -/
import Derived.Test.YtklepphkbbjbjaaDoorPc06
import Derived.Test.YtklepphkbbjbjaaDoorPc07
import Derived.Test.YtklepphkbbjbjaaDoorPc08
set_option linter.unusedVariables false
set_option maxRecDepth 100000
namespace Go.Proofs.YtklepphkbbjbjaaDoor.objectsCopies
open Go Go.ChangeShapes Go.WideShapes Go.ChangeAt Go.RowKit

/-- The law, for arguments as they are read. -/
theorem law (k : Nat) (Ds : List DVal) (h : DTyArgs Tryd.prog k Tryd.f7.params.toList Ds) : ∃ n, cpJ PR n 7 Ds = some (.bool true) := by
  rw [Tryd.params7] at h
  obtain ⟨d0, es0, rfl, h0, d1, es1, rfl, h1, rfl⟩ := h
  obtain ⟨s0, rfl, m0⟩ := arg_steps h0
  obtain ⟨s1, rfl, m1⟩ := arg_steps h1
  exact ⟨10000000000000000001, e7 (Nat.le_refl _) s0 s1 m0 m1⟩

theorem contractAt {H : Type} {enc : TypeId × Value → H} {W : World} {base : Nat} {args : Array Value} {ds gs : List (DataW H)} {before : List MemPlace}
    (hval : ∀ (j : Nat) t v, Tryd.f7.params[j]? = some t → args[j]? = some v → Value.okWide Tryd.prog W .any base t v)
    (hW : DataW.Whole enc Tryd.prog Tryd.f7.params.toList Rows.objectsCopiesSpec.vars false W args.toList ds gs before) (hsh : W.ShapedOpen Tryd.prog) :
    Calls Tryd.prog 7 args W fun e W' => ∃ v, e = .returned v ∧ Rows.objectsCopiesSpec.post enc Tryd.prog Tryd.f7 false true false false W args v W' :=
  contract Tryd.func7 law (by kernel_rfl) (by kernel_rfl) rfl
    (fun H ds hl => by
      rw [show Tryd.f7.params.toList.length = 2 by kernel_rfl] at hl
      match ds, hl with
      | [d0, d1], _ => rfl)
    (fun t ht => by
      rw [Tryd.params7] at ht
      simp only [List.mem_cons, List.not_mem_nil, or_false] at ht
      rcases ht with rfl | rfl <;> exact ⟨by kernel_rfl, of_decide_eq_true (by kernel_rfl)⟩) hval hW hsh

def wargs : Array Value := #[.slice none 0 0, .slice none 0 0]
theorem laid_met (os : Os) : laidMet Tryd.prog Rows.objectsCopiesRow.laid ((laidWorld os).forCall (fun _ _ => 0) ⟨#[], wargs, []⟩).memory :=
  laidMet_of_run' 8 (by kernel_rfl) (by kernel_rfl)
theorem reads (os : Os) {H : Type} (enc : TypeId × Value → H) : ∃ places, DataW.whole enc Tryd.prog ((laidWorld os).forCall (fun _ _ => 0) ⟨#[], wargs, []⟩).memory Tryd.f7.params.toList Rows.objectsCopiesSpec.vars false wargs.toList 8 = some ([.nil, .nil], [], places) :=
  ⟨[], by kernel_rfl⟩

theorem lifted (os : Os) (started : os.Started) (H : Type) (enc : TypeId × Value → H) (F : Stop.Interp) :
    ReturnsInHanded {} Tryd.checked os 7 .any ((OpenSpec.ofChange Rows.objectsCopiesSpec).preRow enc Tryd.prog Tryd.f7 Rows.objectsCopiesRow.domain false Rows.objectsCopiesRow.laid) (((OpenSpec.ofChange Rows.objectsCopiesSpec).at F).post enc Tryd.prog Tryd.f7 false true false false) := by
  obtain ⟨places, hx⟩ := reads os enc
  refine returnsInHanded_of_row (C := Tryd.checked) (s := OpenSpec.ofChange Rows.objectsCopiesSpec) own started (by kernel_rfl) Tryd.func7
    (witness_row_at (enc := enc) (C := Tryd.checked) false (laidWorld os) wargs rfl (by kernel_rfl) (by kernel_rfl) (by kernel_rfl)
      (OpenSpec.preRow_of_cond 8 hx (by kernel_rfl) (fun k hk => by cases hk) (by kernel_rfl) (laid_met os))) ?_
  intro W base args ds gs before hval hW _ _ _ hL hsh _
  exact contractAt hval hW hsh

theorem said : Rows.ObjectsCopiesSaid :=
  OpenClaim.holds_of_cond 7 Tryd.f7 rfl rfl rfl rfl rfl rfl rfl ⟨rfl, rfl, rfl, rfl, rfl⟩ rfl rfl rfl rfl rfl (by kernel_rfl) Tryd.func7 (by kernel_rfl)
    (of_decide_eq_true (by kernel_rfl)) (by unfold Func.isWrapper; first | (rw [if_pos (by decide +kernel)]; kernel_rfl) | (rw [if_neg (by decide +kernel)]; exact ⟨rfl, rfl⟩))
    (fun os started H enc _ F => by rw [OpenClaim.pre_eq_preRow]; exact lifted os started H enc F)

/-- No parameter wants a stand-in; the program's own looks are off: what the card asks. -/
theorem plain (f : FuncId) (fn : Func) (hf : Tryd.pinned.checked.prog.funcNamed "accesscontrol/accesscontrollaw34.ObjectsCopies" = some f) (hfn : Tryd.pinned.checked.prog.funcs[f]? = some fn) :
    true = Tryd.pinned.checked.prog.looks [] ∧ ∀ (j : Nat) t, fn.params[j]? = some t → Tryd.pinned.checked.prog.wantsStandIn t = false := by
  obtain rfl : f = 7 := Option.some.inj ((show Tryd.prog.funcNamed "accesscontrol/accesscontrollaw34.ObjectsCopies" = some 7 by kernel_rfl).symm.trans hf) |>.symm
  obtain rfl : fn = Tryd.f7 := (Option.some.inj (Tryd.func7.symm.trans hfn)).symm
  refine ⟨by kernel_rfl, fun j t ht => ?_⟩
  rw [Tryd.params7] at ht
  have hm := Array.mem_of_getElem? ht
  simp only [List.mem_toArray, List.mem_cons, List.not_mem_nil, or_false] at hm
  rcases hm with rfl | rfl
  · exact (show Tryd.prog.wantsStandIn 32 = false by kernel_rfl)
  · exact (show Tryd.prog.wantsStandIn 32 = false by kernel_rfl)

/-- The card. -/
theorem card : Rows.ObjectsCopiesCardSaid :=
  Claim7.holds_tied_plain_at .later [] _ _ _ _ said (fun _ h => by cases h) (by kernel_rfl) (fun _ h => by cases h) objectsCopies_row_tie rfl ⟨rfl, rfl⟩ (by kernel_rfl) rfl plain (by kernel_rfl)

end Go.Proofs.YtklepphkbbjbjaaDoor.objectsCopies
