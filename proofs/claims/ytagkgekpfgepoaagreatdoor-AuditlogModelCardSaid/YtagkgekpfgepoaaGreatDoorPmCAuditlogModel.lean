/- The law AuditlogModel is proved: for every input the call returns true, and each argument reads afterwards as it read before; condition: the listed package variables start as the program lays them. -/
import Derived.Test.YtagkgekpfgepoaaGreatDoorPm07
import Derived.Test.YtagkgekpfgepoaaGreatDoorPm08
import Derived.Test.YtagkgekpfgepoaaGreatDoorPm09
set_option linter.unusedVariables false
set_option maxRecDepth 100000
namespace Go.Proofs.YtagkgekpfgepoaaGreatDoor.auditlogModel
open Go Go.ChangeShapes Go.WideShapes Go.ChangeAt Go.RowKit

/-- The law, for arguments as they are read. -/
theorem law (k : Nat) (Ds : List DVal) (h : DTyArgs Tryz.prog k Tryz.f6.params.toList Ds) : ∃ n, cpJ PR n 6 Ds = some (.bool true) := by
  rw [Tryz.params6] at h
  obtain ⟨d0, es0, rfl, h0, d1, es1, rfl, h1, rfl⟩ := h
  obtain ⟨x0, rfl⟩ := arg_set h0
  obtain ⟨z1, x1, rfl⟩ := arg_ops h1
  exact ⟨1000000000010, e6 (Nat.le_refl _) x0 z1 x1⟩

theorem contractAt {H : Type} {enc : TypeId × Value → H} {W : World} {base : Nat} {args : Array Value} {ds gs : List (DataW H)} {before : List MemPlace}
    (hval : ∀ (j : Nat) t v, Tryz.f6.params[j]? = some t → args[j]? = some v → Value.okWide Tryz.prog W .any base t v)
    (hW : DataW.Whole enc Tryz.prog Tryz.f6.params.toList Rows.auditlogModelSpec.vars false W args.toList ds gs before) (hsh : W.ShapedOpen Tryz.prog) (hL : laidMetH Tryz.prog laidL W) :
    Calls Tryz.prog 6 args W fun e W' => ∃ v, e = .returned v ∧ Rows.auditlogModelSpec.post enc Tryz.prog Tryz.f6 false true false false W args v W' :=
  contract Tryz.func6 law (by kernel_rfl) (by kernel_rfl) rfl
    (fun H ds hl => by
      rw [show Tryz.f6.params.toList.length = 2 by kernel_rfl] at hl
      match ds, hl with
      | [d0, d1], _ => rfl)
    (fun t ht => by
      rw [Tryz.params6] at ht
      simp only [List.mem_cons, List.not_mem_nil, or_false] at ht
      rcases ht with rfl | rfl <;> exact ⟨by kernel_rfl, of_decide_eq_true (by kernel_rfl)⟩) hval hW hsh hL

def wargs : Array Value := #[.agg #[.int .i64 0, .int .i64 0, .int .i64 0], .slice none 0 0]
theorem laid_met (os : Os) : laidMet Tryz.prog Rows.auditlogModelRow.laid ((laidWorld os).forCall (fun _ _ => 0) ⟨#[], wargs, []⟩).memory :=
  laidMet_of_run' 8 (by kernel_rfl) (by kernel_rfl)
theorem reads (os : Os) {H : Type} (enc : TypeId × Value → H) : ∃ places, DataW.whole enc Tryz.prog ((laidWorld os).forCall (fun _ _ => 0) ⟨#[], wargs, []⟩).memory Tryz.f6.params.toList Rows.auditlogModelSpec.vars false wargs.toList 8 = some ([.agg [.lit (.int .i64 0), .lit (.int .i64 0), .lit (.int .i64 0)], .nil], [], places) :=
  ⟨[], by kernel_rfl⟩

theorem lifted (os : Os) (started : os.Started) (H : Type) (enc : TypeId × Value → H) (F : Stop.Interp) :
    ReturnsInHanded {} Tryz.checked os 6 .any ((OpenSpec.ofChange Rows.auditlogModelSpec).preRow enc Tryz.prog Tryz.f6 Rows.auditlogModelRow.domain false Rows.auditlogModelRow.laid) (((OpenSpec.ofChange Rows.auditlogModelSpec).at F).post enc Tryz.prog Tryz.f6 false true false false) := by
  obtain ⟨places, hx⟩ := reads os enc
  refine returnsInHanded_of_row (C := Tryz.checked) (s := OpenSpec.ofChange Rows.auditlogModelSpec) own started (by kernel_rfl) Tryz.func6
    (witness_row_at (enc := enc) (C := Tryz.checked) false (laidWorld os) wargs rfl (by kernel_rfl) (by kernel_rfl) (by kernel_rfl)
      (OpenSpec.preRow_of_cond 8 hx (by kernel_rfl) (fun k hk => by cases hk) (by kernel_rfl) (laid_met os))) ?_
  intro W base args ds gs before hval hW _ _ _ hL hsh _
  exact contractAt hval hW hsh hL

theorem said : Rows.AuditlogModelSaid :=
  OpenClaim.holds_of_cond 6 Tryz.f6 rfl rfl rfl rfl rfl rfl rfl ⟨rfl, rfl, rfl, rfl, rfl⟩ rfl rfl rfl rfl rfl (by kernel_rfl) Tryz.func6 (by kernel_rfl)
    (of_decide_eq_true (by kernel_rfl)) (by unfold Func.isWrapper; first | (rw [if_pos (by decide +kernel)]; kernel_rfl) | (rw [if_neg (by decide +kernel)]; exact ⟨rfl, rfl⟩))
    (fun os started H enc _ F => by rw [OpenClaim.pre_eq_preRow]; exact lifted os started H enc F)

/-- No parameter wants a stand-in; the program's own looks are off: what the card asks. -/
theorem plain (f : FuncId) (fn : Func) (hf : Tryz.pinned.checked.prog.funcNamed "accesscontrol/accesscontrollaw32.AuditlogModel" = some f) (hfn : Tryz.pinned.checked.prog.funcs[f]? = some fn) :
    true = Tryz.pinned.checked.prog.looks [] ∧ ∀ (j : Nat) t, fn.params[j]? = some t → Tryz.pinned.checked.prog.wantsStandIn t = false := by
  obtain rfl : f = 6 := Option.some.inj ((show Tryz.prog.funcNamed "accesscontrol/accesscontrollaw32.AuditlogModel" = some 6 by kernel_rfl).symm.trans hf) |>.symm
  obtain rfl : fn = Tryz.f6 := (Option.some.inj (Tryz.func6.symm.trans hfn)).symm
  refine ⟨by kernel_rfl, fun j t ht => ?_⟩
  rw [Tryz.params6] at ht
  have hm := Array.mem_of_getElem? ht
  simp only [List.mem_toArray, List.mem_cons, List.not_mem_nil, or_false] at hm
  rcases hm with rfl | rfl
  · exact (show Tryz.prog.wantsStandIn 38 = false by kernel_rfl)
  · exact (show Tryz.prog.wantsStandIn 39 = false by kernel_rfl)

/-- The card. -/
theorem card : Rows.AuditlogModelCardSaid :=
  Claim7.holds_tied_plain_at .later [] _ _ _ _ said (fun _ h => by cases h) (by kernel_rfl) (fun _ h => by cases h) auditlogModel_row_tie rfl ⟨rfl, rfl⟩ (by kernel_rfl) rfl plain (by kernel_rfl)

end Go.Proofs.YtagkgekpfgepoaaGreatDoor.auditlogModel
