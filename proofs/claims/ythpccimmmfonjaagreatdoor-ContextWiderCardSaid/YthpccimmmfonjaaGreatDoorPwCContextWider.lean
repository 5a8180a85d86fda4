/- The law ContextWider is proved: for every input the call returns true, and each argument reads afterwards as it read before; condition: the listed package variables start as the program lays them. -/
import Derived.Test.YthpccimmmfonjaaGreatDoorPw06
import Derived.Test.YthpccimmmfonjaaGreatDoorPw07
import Derived.Test.YthpccimmmfonjaaGreatDoorPw08
set_option linter.unusedVariables false
set_option maxRecDepth 100000
namespace Go.Proofs.YthpccimmmfonjaaGreatDoor.contextWider
open Go Go.ChangeShapes Go.WideShapes Go.ChangeAt Go.RowKit

/-- The law, for arguments as they are read. -/
theorem law (k : Nat) (Ds : List DVal) (h : DTyArgs Tryz.prog k Tryz.f8.params.toList Ds) : ∃ n, cpJ PR n 8 Ds = some (.bool true) := by
  rw [Tryz.params8] at h
  obtain ⟨d0, es0, rfl, h0, d1, es1, rfl, h1, d2, es2, rfl, h2, rfl⟩ := h
  obtain ⟨x0, rfl, hf0⟩ := arg_pol h0
  obtain ⟨x1, rfl⟩ := arg_ctx h1
  obtain ⟨x2, x3, rfl⟩ := arg_rng h2
  have hml : maxLen ≥ 9000000 := by unfold maxLen; omega
  exact ⟨(maxLen + 2000 + (k + 6)) + 1, e8 (n := (maxLen + 2000 + (k + 6))) (by omega) (alive_true (by omega)) hf0 x1 x2 x3⟩

theorem contractAt {H : Type} {enc : TypeId × Value → H} {W : World} {base : Nat} {args : Array Value} {ds gs : List (DataW H)} {before : List MemPlace}
    (hval : ∀ (j : Nat) t v, Tryz.f8.params[j]? = some t → args[j]? = some v → Value.okWide Tryz.prog W .any base t v)
    (hW : DataW.Whole enc Tryz.prog Tryz.f8.params.toList Rows.contextWiderSpec.vars false W args.toList ds gs before) (hsh : W.ShapedOpen Tryz.prog) :
    Calls Tryz.prog 8 args W fun e W' => ∃ v, e = .returned v ∧ Rows.contextWiderSpec.post enc Tryz.prog Tryz.f8 false true false false W args v W' :=
  contract Tryz.func8 law (by kernel_rfl) (by kernel_rfl) rfl
    (fun H ds hl => by
      rw [show Tryz.f8.params.toList.length = 3 by kernel_rfl] at hl
      match ds, hl with
      | [d0, d1, d2], _ => rfl)
    (fun t ht => by
      rw [Tryz.params8] at ht
      simp only [List.mem_cons, List.not_mem_nil, or_false] at ht
      rcases ht with rfl | rfl | rfl <;> exact ⟨by kernel_rfl, of_decide_eq_true (by kernel_rfl)⟩) hval hW hsh

def wargs : Array Value := #[.agg #[.slice none 0 0, .slice none 0 0, .slice none 0 0, .slice none 0 0, .slice none 0 0, .slice none 0 0, .slice none 0 0, .slice none 0 0, .slice none 0 0, .slice none 0 0, .slice none 0 0, .slice none 0 0, .slice none 0 0, .slice none 0 0, .slice none 0 0, .slice none 0 0, .slice none 0 0], .agg #[.int .i64 0, .int .i64 0, .int .i64 0, .int .i64 0, .int .u64 0, .int .i64 0, .int .u64 0], .agg #[.int .i64 0, .int .u64 0, .int .i64 0, .int .u64 0]]
theorem laid_met (os : Os) : laidMet Tryz.prog Rows.contextWiderRow.laid ((laidWorld os).forCall (fun _ _ => 0) ⟨#[], wargs, []⟩).memory :=
  laidMet_of_run' 8 (by kernel_rfl) (by kernel_rfl)
theorem reads (os : Os) {H : Type} (enc : TypeId × Value → H) : ∃ places, DataW.whole enc Tryz.prog ((laidWorld os).forCall (fun _ _ => 0) ⟨#[], wargs, []⟩).memory Tryz.f8.params.toList Rows.contextWiderSpec.vars false wargs.toList 8 = some ([.agg [.nil, .nil, .nil, .nil, .nil, .nil, .nil, .nil, .nil, .nil, .nil, .nil, .nil, .nil, .nil, .nil, .nil], .agg [.lit (.int .i64 0), .lit (.int .i64 0), .lit (.int .i64 0), .agg [.agg [.lit (.int .i64 0), .lit (.int .u64 0)], .agg [.lit (.int .i64 0), .lit (.int .u64 0)]]], .agg [.agg [.lit (.int .i64 0), .lit (.int .u64 0)], .agg [.lit (.int .i64 0), .lit (.int .u64 0)]]], [], places) :=
  ⟨[], by kernel_rfl⟩

theorem lifted (os : Os) (started : os.Started) (H : Type) (enc : TypeId × Value → H) (F : Stop.Interp) :
    ReturnsInHanded {} Tryz.checked os 8 .any ((OpenSpec.ofChange Rows.contextWiderSpec).preRow enc Tryz.prog Tryz.f8 Rows.contextWiderRow.domain false Rows.contextWiderRow.laid) (((OpenSpec.ofChange Rows.contextWiderSpec).at F).post enc Tryz.prog Tryz.f8 false true false false) := by
  obtain ⟨places, hx⟩ := reads os enc
  refine returnsInHanded_of_row (C := Tryz.checked) (s := OpenSpec.ofChange Rows.contextWiderSpec) own started (by kernel_rfl) Tryz.func8
    (witness_row_at (enc := enc) (C := Tryz.checked) false (laidWorld os) wargs rfl (by kernel_rfl) (by kernel_rfl) (by kernel_rfl)
      (OpenSpec.preRow_of_cond 8 hx (by kernel_rfl) (fun k hk => by cases hk) (by kernel_rfl) (laid_met os))) ?_
  intro W base args ds gs before hval hW _ _ _ hL hsh _
  exact contractAt hval hW hsh

theorem said : Rows.ContextWiderSaid :=
  OpenClaim.holds_of_cond 8 Tryz.f8 rfl rfl rfl rfl rfl rfl rfl ⟨rfl, rfl, rfl, rfl, rfl⟩ rfl rfl rfl rfl rfl (by kernel_rfl) Tryz.func8 (by kernel_rfl)
    (of_decide_eq_true (by kernel_rfl)) (by unfold Func.isWrapper; first | (rw [if_pos (by decide +kernel)]; kernel_rfl) | (rw [if_neg (by decide +kernel)]; exact ⟨rfl, rfl⟩))
    (fun os started H enc _ F => by rw [OpenClaim.pre_eq_preRow]; exact lifted os started H enc F)

/-- No parameter wants a stand-in; the program's own looks are off: what the card asks. -/
theorem plain (f : FuncId) (fn : Func) (hf : Tryz.pinned.checked.prog.funcNamed "accesscontrol/accesscontrollaw19.ContextWider" = some f) (hfn : Tryz.pinned.checked.prog.funcs[f]? = some fn) :
    false = Tryz.pinned.checked.prog.looks [] ∧ ∀ (j : Nat) t, fn.params[j]? = some t → Tryz.pinned.checked.prog.wantsStandIn t = false := by
  obtain rfl : f = 8 := Option.some.inj ((show Tryz.prog.funcNamed "accesscontrol/accesscontrollaw19.ContextWider" = some 8 by kernel_rfl).symm.trans hf) |>.symm
  obtain rfl : fn = Tryz.f8 := (Option.some.inj (Tryz.func8.symm.trans hfn)).symm
  refine ⟨by kernel_rfl, fun j t ht => ?_⟩
  rw [Tryz.params8] at ht
  have hm := Array.mem_of_getElem? ht
  simp only [List.mem_toArray, List.mem_cons, List.not_mem_nil, or_false] at hm
  rcases hm with rfl | rfl | rfl
  · exact (show Tryz.prog.wantsStandIn 39 = false by kernel_rfl)
  · exact (show Tryz.prog.wantsStandIn 46 = false by kernel_rfl)
  · exact (show Tryz.prog.wantsStandIn 44 = false by kernel_rfl)

/-- The card. -/
theorem card : Rows.ContextWiderCardSaid :=
  Claim7.holds_tied_plain_at .later [] _ _ _ _ said (fun _ h => by cases h) (by kernel_rfl) (fun _ h => by cases h) contextWider_row_tie rfl ⟨rfl, rfl⟩ (by kernel_rfl) rfl plain (by kernel_rfl)

end Go.Proofs.YthpccimmmfonjaaGreatDoor.contextWider
