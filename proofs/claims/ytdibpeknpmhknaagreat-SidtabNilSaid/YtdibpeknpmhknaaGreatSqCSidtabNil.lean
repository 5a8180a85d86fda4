/- The law SidtabNil is proved: for every input the call returns true, and each argument reads afterwards as it read before. -/
import Derived.Test.YtdibpeknpmhknaaGreatSq08
import Derived.Test.YtdibpeknpmhknaaGreatSq09
import Derived.Test.YtdibpeknpmhknaaGreatSq10
set_option linter.unusedVariables false
set_option maxRecDepth 100000
namespace Go.Proofs.YtdibpeknpmhknaaGreat.sidtabNil
open Go Go.ChangeShapes Go.WideShapes Go.ChangeAt Go.RowKit

/-- The law, for arguments as they are read. -/
theorem law (k : Nat) (Ds : List Qa) (h : Yk Tryz.prog k Tryz.f7.params.toList Ds) : ∃ n, cpJ PR n 7 Ds = some (.bool true) := by
  rw [Tryz.params7] at h
  obtain ⟨d0, es0, rfl, h0, d1, es1, rfl, h1, d2, es2, rfl, h2, rfl⟩ := h
  obtain ⟨x0, rfl, hf0⟩ := He h0
  obtain ⟨x1, rfl⟩ := arg_ctx h1
  obtain ⟨x2, rfl⟩ := arg_int h2
  have hml : maxLen ≥ 9000000 := by unfold maxLen; omega
  exact ⟨(maxLen + 2000 + (k + 6)) + 1, e7 (n := (maxLen + 2000 + (k + 6))) (by omega) (alive_true (by omega)) hf0 x1 x2⟩

theorem Xn {H : Type} {enc : TypeId × Value → H} {W : World} {base : Nat} {args : Array Value} {ds gs : List (DataW H)} {before : List MemPlace}
    (hval : ∀ (j : Nat) t v, Tryz.f7.params[j]? = some t → args[j]? = some v → Value.okWide Tryz.prog W .any base t v)
    (hW : DataW.Whole enc Tryz.prog Tryz.f7.params.toList Rows.sidtabNilSpec.vars false W args.toList ds gs before) (hsh : W.ShapedOpen Tryz.prog) :
    Calls Tryz.prog 7 args W fun e W' => ∃ v, e = .returned v ∧ Rows.sidtabNilSpec.post enc Tryz.prog Tryz.f7 false true false false W args v W' :=
  contract Tryz.func7 law (by kernel_rfl) (by kernel_rfl) rfl
    (fun H ds hl => by
      rw [show Tryz.f7.params.toList.length = 3 by kernel_rfl] at hl
      match ds, hl with
      | [d0, d1, d2], _ => rfl)
    (fun t ht => by
      rw [Tryz.params7] at ht
      simp only [List.mem_cons, List.not_mem_nil, or_false] at ht
      rcases ht with rfl | rfl | rfl <;> exact ⟨by kernel_rfl, of_decide_eq_true (by kernel_rfl)⟩) hval hW hsh

def wargs : Array Value := #[.agg #[.slice none 0 0, .slice none 0 0, .slice none 0 0, .slice none 0 0, .slice none 0 0, .slice none 0 0, .slice none 0 0, .slice none 0 0, .slice none 0 0, .slice none 0 0, .slice none 0 0, .slice none 0 0, .slice none 0 0, .slice none 0 0, .slice none 0 0, .slice none 0 0, .slice none 0 0], .agg #[.int .i64 0, .int .i64 0, .int .i64 0, .int .i64 0, .int .u64 0, .int .i64 0, .int .u64 0], .int .i64 0]
theorem Yh (os : Os) : laidMet Tryz.prog Rows.sidtabNilRow.laid ((laidWorld os).forCall (fun _ _ => 0) ⟨#[], wargs, []⟩).memory :=
  ⟨[], rfl, List.nodup_nil, fun b off h => by simp at h⟩
theorem reads (os : Os) {H : Type} (enc : TypeId × Value → H) : ∃ Xh, DataW.whole enc Tryz.prog ((laidWorld os).forCall (fun _ _ => 0) ⟨#[], wargs, []⟩).memory Tryz.f7.params.toList Rows.sidtabNilSpec.vars false wargs.toList 8 = some ([.agg [.nil, .nil, .nil, .nil, .nil, .nil, .nil, .nil, .nil, .nil, .nil, .nil, .nil, .nil, .nil, .nil, .nil], .agg [.lit (.int .i64 0), .lit (.int .i64 0), .lit (.int .i64 0), .agg [.agg [.lit (.int .i64 0), .lit (.int .u64 0)], .agg [.lit (.int .i64 0), .lit (.int .u64 0)]]], .lit (.int .i64 0)], [], Xh) :=
  ⟨[], by kernel_rfl⟩

theorem W_ (os : Os) (started : os.Started) (H : Type) (enc : TypeId × Value → H) (F : Stop.Interp) :
    ReturnsInHanded {} Tryz.checked os 7 .any ((OpenSpec.ofChange Rows.sidtabNilSpec).preRow enc Tryz.prog Tryz.f7 Rows.sidtabNilRow.domain false Rows.sidtabNilRow.laid) (((OpenSpec.ofChange Rows.sidtabNilSpec).at F).post enc Tryz.prog Tryz.f7 false true false false) := by
  obtain ⟨Xh, hx⟩ := reads os enc
  refine returnsInHanded_of_row (C := Tryz.checked) (s := OpenSpec.ofChange Rows.sidtabNilSpec) own started (by kernel_rfl) Tryz.func7
    (witness_row_at (enc := enc) (C := Tryz.checked) false (laidWorld os) wargs rfl (by kernel_rfl) (by kernel_rfl) (by kernel_rfl)
      (OpenSpec.preRow_of_cond 8 hx (by kernel_rfl) (fun k hk => by cases hk) (by kernel_rfl) (Yh os))) ?_
  intro W base args ds gs before hval hW _ _ _ hL hsh _
  exact Xn hval hW hsh

theorem card : Rows.SidtabNilSaid :=
  OpenClaim.holds_of_cond 7 Tryz.f7 rfl rfl rfl rfl rfl rfl rfl ⟨rfl, rfl, rfl, rfl, rfl⟩ rfl rfl rfl rfl rfl (by kernel_rfl) Tryz.func7 (by kernel_rfl)
    (of_decide_eq_true (by kernel_rfl)) (by unfold Func.isWrapper; first | (rw [if_pos (by decide +kernel)]; kernel_rfl) | (rw [if_neg (by decide +kernel)]; exact ⟨rfl, rfl⟩))
    (fun os started H enc _ F => by rw [OpenClaim.pre_eq_preRow]; exact W_ os started H enc F)

end Go.Proofs.YtdibpeknpmhknaaGreat.sidtabNil
