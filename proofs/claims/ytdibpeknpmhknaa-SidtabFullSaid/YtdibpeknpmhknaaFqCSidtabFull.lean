/- The law SidtabFull is proved: for every input the call returns true, and each argument reads afterwards as it read before. -/
import Derived.Test.YtdibpeknpmhknaaFq05
import Derived.Test.YtdibpeknpmhknaaFq06
import Derived.Test.YtdibpeknpmhknaaFq07
set_option linter.unusedVariables false
set_option maxRecDepth 100000
namespace Go.Proofs.Ytdibpeknpmhknaa.sidtabFull
open Go Go.ChangeShapes Go.WideShapes Go.ChangeAt Go.RowKit

/-- The law, for arguments as they are read. -/
theorem law (k : Nat) (Ds : List DVal) (h : DTyArgs Try.prog k Try.f3.params.toList Ds) : ∃ n, cpJ PR n 3 Ds = some (.bool true) := by
  rw [Try.params3] at h
  obtain ⟨d0, es0, rfl, h0, rfl⟩ := h
  obtain ⟨v, rfl, hv⟩ := arg_u16 h0
  exact ⟨1200002 + 1, e3 (n := 1200002) (by omega) v hv⟩

theorem contractAt {H : Type} {enc : TypeId × Value → H} {W : World} {base : Nat} {args : Array Value} {ds gs : List (DataW H)} {before : List MemPlace}
    (hval : ∀ (j : Nat) t v, Try.f3.params[j]? = some t → args[j]? = some v → Value.okWide Try.prog W .any base t v)
    (hW : DataW.Whole enc Try.prog Try.f3.params.toList Rows.sidtabFullSpec.vars false W args.toList ds gs before) (hsh : W.ShapedOpen Try.prog) :
    Calls Try.prog 3 args W fun e W' => ∃ v, e = .returned v ∧ Rows.sidtabFullSpec.post enc Try.prog Try.f3 false true false false W args v W' :=
  contract Try.func3 law (by kernel_rfl) (by kernel_rfl) rfl
    (fun H ds hl => by
      rw [show Try.f3.params.toList.length = 1 by kernel_rfl] at hl
      match ds, hl with
      | [d0], _ => rfl)
    (fun t ht => by
      rw [Try.params3] at ht
      simp only [List.mem_cons, List.not_mem_nil, or_false] at ht
      rcases ht with rfl <;> exact ⟨by kernel_rfl, of_decide_eq_true (by kernel_rfl)⟩) hval hW hsh

def wargs : Array Value := #[.int .u16 0]
theorem laid_met (os : Os) : laidMet Try.prog Rows.sidtabFullRow.laid ((laidWorld os).forCall (fun _ _ => 0) ⟨#[], wargs, []⟩).memory :=
  ⟨[], rfl, List.nodup_nil, fun b off h => by simp at h⟩
theorem reads (os : Os) {H : Type} (enc : TypeId × Value → H) : ∃ places, DataW.whole enc Try.prog ((laidWorld os).forCall (fun _ _ => 0) ⟨#[], wargs, []⟩).memory Try.f3.params.toList Rows.sidtabFullSpec.vars false wargs.toList 8 = some ([.lit (.int .u16 0)], [], places) :=
  ⟨[], by kernel_rfl⟩

theorem lifted (os : Os) (started : os.Started) (H : Type) (enc : TypeId × Value → H) (F : Stop.Interp) :
    ReturnsInHanded {} Try.checked os 3 .any ((OpenSpec.ofChange Rows.sidtabFullSpec).preRow enc Try.prog Try.f3 Rows.sidtabFullRow.domain false Rows.sidtabFullRow.laid) (((OpenSpec.ofChange Rows.sidtabFullSpec).at F).post enc Try.prog Try.f3 false true false false) := by
  obtain ⟨places, hx⟩ := reads os enc
  refine returnsInHanded_of_row (C := Try.checked) (s := OpenSpec.ofChange Rows.sidtabFullSpec) own started (by kernel_rfl) Try.func3
    (witness_row_at (enc := enc) (C := Try.checked) false (laidWorld os) wargs rfl (by kernel_rfl) (by kernel_rfl) (by kernel_rfl)
      (OpenSpec.preRow_of_cond 8 hx (by kernel_rfl) (fun k hk => by cases hk) (by kernel_rfl) (laid_met os))) ?_
  intro W base args ds gs before hval hW _ _ _ hL hsh _
  exact contractAt hval hW hsh

theorem card : Rows.SidtabFullSaid :=
  OpenClaim.holds_of_cond 3 Try.f3 rfl rfl rfl rfl rfl rfl rfl ⟨rfl, rfl, rfl, rfl, rfl⟩ rfl rfl rfl rfl rfl (by kernel_rfl) Try.func3 (by kernel_rfl)
    (of_decide_eq_true (by kernel_rfl)) (by unfold Func.isWrapper; first | (rw [if_pos (by decide +kernel)]; kernel_rfl) | (rw [if_neg (by decide +kernel)]; exact ⟨rfl, rfl⟩))
    (fun os started H enc _ F => by rw [OpenClaim.pre_eq_preRow]; exact lifted os started H enc F)

end Go.Proofs.Ytdibpeknpmhknaa.sidtabFull
