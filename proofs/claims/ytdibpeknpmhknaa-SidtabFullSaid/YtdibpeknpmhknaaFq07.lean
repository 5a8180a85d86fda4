/- Texts of this proof, part 7: see the card for what is proved. -/
import Derived.Test.YtdibpeknpmhknaaFq01
import Derived.Test.YtdibpeknpmhknaaFq04
import Derived.Lib.Join
import Derived.Shelf.Strings.OnBuilder
import Derived.Test.YtdibpeknpmhknaaChecked
import Derived.KernelRfl
import Derived.Test.YtdibpeknpmhknaaFq06
import Derived.Test.YtdibpeknpmhknaaFq03
import Derived.Test.YtdibpeknpmhknaaRows
import Derived.ProofKit
import Derived.OpenShut
import Derived.Deep.DeepHandedRow
namespace Go.Proofs.Ytdibpeknpmhknaa
set_option linter.unusedVariables false
set_option linter.unusedSimpArgs false
open Go Go.RowKit Go.Shelf
section
variable {P : Program} {ρ : Ren} {Gl : List (Nat × Value)}
theorem strs_rel {V : Vw} {w : World} {b : Nat} : ∀ {es : List (List DVal)} {xs : List (List UInt8)} {off : Nat}, RowsRel V w 2 b 1 off es → strsOf es = some xs →
    xs.length = es.length ∧ ∀ (j : Nat) (x : List UInt8), xs[j]? = some x → V.imm b (off + j) ∧ w.cell? ⟨b, off + j, none⟩ = some (.string ⟨x.toArray⟩)
  | [], xs, off, h, hs => by
    simp only [strsOf, Option.some.injEq] at hs
    subst hs
    exact ⟨rfl, fun j x hx => by simp at hx⟩
  | e :: es, xs, off, h, hs => by
    unfold strsOf at hs
    split at hs
    · rename_i he; cases he
    · rename_i s es' he
      simp only [List.cons.injEq] at he
      obtain ⟨rfl, rfl⟩ := he
      simp only [Option.map_eq_some_iff] at hs
      obtain ⟨ys, hy, rfl⟩ := hs
      simp only [RowsRel, RowRel] at h
      obtain ⟨-, ⟨h1, ⟨v, h2, -, h3⟩, -⟩, h4⟩ := h
      simp only [VRel] at h3
      subst h3
      obtain ⟨g1, g2⟩ := strs_rel h4 hy
      refine ⟨by simp [g1], fun j x hx => ?_⟩
      cases j with
      | zero => simp only [List.getElem?_cons_zero, Option.some.injEq] at hx; subst hx; exact ⟨h1, h2⟩
      | succ j => rw [List.getElem?_cons_succ] at hx; have := g2 j x hx; rwa [show off + 1 + j = off + (j + 1) by omega] at this
    · cases hs
theorem prim_join (L : Lays.n156 P ρ) (X : Builder.Extra P ρ) : PureOk P Gl (ρ.f 156) joinSem := by
  intro I w ds vs r hI hG hv hs
  have hcall : callable P (ρ.f 156) := ⟨_, L.f156, rfl, rfl⟩
  unfold joinSem at hs
  split at hs
  · rename_i own es sep
    obtain ⟨v, u, rfl, h1, h2⟩ := hv.two
    simp only [VRel] at h1 h2
    subst h2
    obtain ⟨-, b, off, cap, rfl, h3, -, h4⟩ := h1
    simp only [Option.bind_eq_some_iff] at hs
    obtain ⟨xs, hx, hs⟩ := hs
    split at hs
    · rename_i hlen
      simp only [Option.some.injEq] at hs
      subst hs
      obtain ⟨g1, g2⟩ := strs_rel h4 hx
      refine ⟨hcall, ?_⟩
      cases hxs : xs with
      | nil =>
        subst hxs
        have he : es.length = 0 := by simpa using g1.symm
        rw [he]
        refine (Any.strings_Join_none L X _ cap ⟨sep.toArray⟩ w).mono ?_
        rintro e w' ⟨rfl, rfl⟩
        exact ⟨_, rfl, Below.refl _ _, by simp [HRel, VRel, Lib.join_nil]⟩
      | cons x0 xs' =>
        have hb : b < w.heap.size := by
          have := (g2 0 x0 (by rw [hxs]; rfl)).1
          exact (VI_imm.1 this).1
        have := Any.strings_Join L X b off cap (xs.map fun x => (⟨x.toArray⟩ : ByteArray)) ⟨sep.toArray⟩ w (fun j x hj => by
          rw [List.getElem?_map, Option.map_eq_some_iff] at hj
          obtain ⟨y, hy, rfl⟩ := hj
          exact (g2 j y hy).2) hb (by simpa using hlen.1) (by simp; omega) (by simpa [Function.comp_def] using hlen.2)
        rw [List.length_map, g1] at this
        refine this.mono ?_
        rintro e w' ⟨rfl, hbel⟩
        refine ⟨_, rfl, hbel, ?_⟩
        simp [HRel, VRel, Function.comp_def, hxs]
    · cases hs
  · rename_i sep
    obtain ⟨v, u, rfl, h1, h2⟩ := hv.two
    simp only [VRel] at h1 h2
    subst h1 h2
    simp only [Option.some.injEq] at hs
    subst hs
    refine ⟨hcall, (Any.strings_Join_none L X none 0 ⟨sep.toArray⟩ w).mono ?_⟩
    rintro e w' ⟨rfl, rfl⟩
    exact ⟨_, rfl, Below.refl _ _, by simp [HRel, VRel]⟩
  · cases hs
end
end Go.Proofs.Ytdibpeknpmhknaa
namespace Go.Proofs.Ytdibpeknpmhknaa
set_option linter.unusedVariables false
set_option maxRecDepth 100000
open Go Go.Shelf
def ren156 : Go.Shelf.Ren := ⟨fun | 156 => 61 | 165 => 63 | 166 => 64 | 169 => 65 | 240 => 67 | 241 => 68 | 276 => 70 | 277 => 71 | n => n, fun | 31 => 29 | 9 => 9 | 3 => 3 | 4 => 4 | 0 => 0 | 20 => 20 | 72 => 148 | 76 => 152 | 70 => 145 | 37 => 146 | 75 => 151 | 127 => 156 | 164 => 158 | 5 => 5 | 80 => 154 | n => n, fun n => n⟩
theorem lays156 : Lays.n156 Try.prog ren156 where
  mixed := by kernel_rfl
  f156 := Try.func61.trans (congrArg some (by kernel_rfl))
  f165 := Try.func63.trans (congrArg some (by kernel_rfl))
  f166 := Try.func64.trans (congrArg some (by kernel_rfl))
  f169 := Try.func65.trans (congrArg some (by kernel_rfl))
  f240 := Try.func67.trans (congrArg some (by kernel_rfl))
  f241 := Try.func68.trans (congrArg some (by kernel_rfl))
  f276 := Try.func70.trans (congrArg some (by kernel_rfl))
  f277 := Try.func71.trans (congrArg some (by kernel_rfl))
  t0 := Try.underlying0
  a0 := Try.isAgg0
  z0 := Try.sizeOf0
  v0 := Try.zeroValue0
  t3 := Try.underlying3
  a3 := Try.isAgg3
  z3 := Try.sizeOf3
  v3 := Try.zeroValue3
  t4 := Try.underlying4
  a4 := Try.isAgg4
  z4 := Try.sizeOf4
  v4 := Try.zeroValue4
  t9 := Try.underlying9
  a9 := Try.isAgg9
  z9 := Try.sizeOf9
  v9 := Try.zeroValue9
  t20 := Try.underlying20
  a20 := Try.isAgg20
  z20 := Try.sizeOf20
  v20 := Try.zeroValue20
  t31 := Try.underlying29
  a31 := Try.isAgg29
  z31 := Try.sizeOf29
  v31 := Try.zeroValue29
  t37 := Try.underlying146
  a37 := Try.isAgg146
  z37 := Try.sizeOf146
  v37 := Try.zeroValue146
  t70 := Try.underlying145
  a70 := Try.isAgg145
  z70 := Try.sizeOf145
  v70 := Try.zeroValue145
  t72 := Try.underlying148
  a72 := Try.isAgg148
  z72 := Try.sizeOf148
  v72 := Try.zeroValue148
  t75 := Try.underlying151
  a75 := Try.isAgg151
  z75 := Try.sizeOf151
  v75 := Try.zeroValue151
  t76 := Try.underlying152
  a76 := Try.isAgg152
  z76 := Try.sizeOf152
  v76 := Try.zeroValue152
  t127 := Try.underlying156
  a127 := Try.isAgg156
  z127 := Try.sizeOf156
  v127 := Try.zeroValue156
  t164 := Try.underlying158
  a164 := Try.isAgg158
  z164 := Try.sizeOf158
  v164 := Try.zeroValue158
theorem extra156 : Builder.Extra Try.prog ren156 where
  sizeBuilder := by kernel_rfl
  liesBuilder := by kernel_rfl
  t5 := Try.underlying5
  a5 := Try.isAgg5
  z5 := Try.sizeOf5
  v5 := Try.zeroValue5
  infoByte := by kernel_rfl
  cellsByte := by kernel_rfl
  sizeByte := by kernel_rfl
  neB5 := by decide
end Go.Proofs.Ytdibpeknpmhknaa
namespace Go.Proofs.Ytdibpeknpmhknaa
set_option linter.unusedVariables false
set_option maxRecDepth 100000
open Go Go.Shelf
theorem table_ok : AllJ Try.prog [] table :=
  ⟨prim_join lays156 extra156, K3, K4, K5, K6, K7, K8, K9, K10, K11, K12, K13, K14, K15, K16, K17, K18, K19, K20, K21, K22, K23, K24, K25, K26, K27, K28, K29, K30, K31, K32, K33, K34, K35, K36, K37, K38, K39, K40, K41, K42, K43, K44, K45, K46, K47, K48, K49, K50, K51, K52, K53, K54, K55, K56, K57, K58, K59, K60, K62, K66, K69, trivial⟩
end Go.Proofs.Ytdibpeknpmhknaa
namespace Go.Proofs.Ytdibpeknpmhknaa
set_option linter.unusedVariables false
set_option maxRecDepth 100000
open Go Go.ChangeShapes Go.WideShapes Go.ChangeAt Go.RowKit
theorem own : ownKnob Try.prog.godebug = none := by kernel_rfl
theorem laidOut : laidOutB Try.prog = true := by kernel_rfl
def argS : List TypeId := [22]
theorem argS_plain : plainS Try.prog argS = true := by kernel_rfl
theorem call_true {f : Nat} {fn : Func} (hfn : Try.prog.funcs[f]? = some fn) (hlaw : ∀ k Ds, DTyArgs Try.prog k fn.params.toList Ds → ∃ n, cpJ PR n f Ds = some (.bool true))
    (hp : fn.params.toList.all argS.contains = true)
    {H : Type} {enc : TypeId × Value → H} {W : World} {base : Nat} {args : Array Value} {ds : List (DataW H)} {p : List MemPlace}
    (hval : ∀ (j : Nat) t v, fn.params[j]? = some t → args[j]? = some v → Value.okWide Try.prog W .any base t v)
    (hA : DataW.TrodAll enc Try.prog W 0 (fun _ => true) true fn.params.toList args.toList ds p) (hsh : W.ShapedOpen Try.prog) :
    Calls Try.prog f args W fun e W' => e = .returned (.bool true) ∧ Below W.heap.size W W' := by
  obtain ⟨k, Ds, h1, h2⟩ := args_rel (w := W) argS_plain (base := base) hp (fun j t v ht hv => hval j t v (by simpa using ht) (by simpa using hv)) hA
  have hG : HasG [] (oldI W) W := fun x hx => by simp at hx
  obtain ⟨n, hlaw⟩ := hlaw k Ds h1
  have := ((allJ_sound table_ok n).1 f (oldI W) W Ds args.toList (.bool true) (fun b k h => h) hG h2 hlaw).2
  refine (by simpa using this : Calls Try.prog f args W _).mono ?_
  rintro e W' ⟨v, rfl, hbel, hrel⟩
  simp only [HRel, VRel] at hrel
  exact ⟨by rw [hrel], hbel⟩
theorem contract {f : Nat} {fn : Func} {s : ChangeSpec} (hfn : Try.prog.funcs[f]? = some fn) (hlaw : ∀ k Ds, DTyArgs Try.prog k fn.params.toList Ds → ∃ n, cpJ PR n f Ds = some (.bool true))
    (hp : fn.params.toList.all argS.contains = true) (hres : fn.resultTypes = #[4]) (hvars : s.vars = [])
    (hspec : ∀ (H : Type) (ds : List (DataW H)), ds.length = fn.params.toList.length → s.fn H ds = { results := [.lit (.bool true)], args := ds, vars := [] })
    (ht : ∀ t, t ∈ fn.params.toList → Try.prog.readableRec t = true ∧ t < Try.prog.types.size)
    {H : Type} {enc : TypeId × Value → H} {W : World} {base : Nat} {args : Array Value} {ds gs : List (DataW H)} {before : List MemPlace}
    (hval : ∀ (j : Nat) t v, fn.params[j]? = some t → args[j]? = some v → Value.okWide Try.prog W .any base t v)
    (hW : DataW.Whole enc Try.prog fn.params.toList s.vars false W args.toList ds gs before) (hsh : W.ShapedOpen Try.prog) :
    Calls Try.prog f args W fun e W' => ∃ v, e = .returned v ∧ s.post enc Try.prog fn false true false false W args v W' := by
  obtain ⟨p, q, hA, hV, hpq, hz, hn⟩ := id hW
  have hg : gs = [] := by
    rw [hvars] at hV
    cases gs with
    | nil => rfl
    | cons g gs => exact hV.elim
  subst hg
  have hlen : ds.length = fn.params.toList.length := by
    have : ∀ {ts : List TypeId} {vs : List Value} {ds : List (DataW H)} {p : List MemPlace}, DataW.TrodAll enc Try.prog W 0 (fun _ => true) true ts vs ds p → ds.length = ts.length := by
      intro ts
      induction ts with
      | nil => intro vs ds p h; cases vs <;> cases ds <;> first | rfl | exact h.elim
      | cons t ts ih =>
        intro vs ds p h
        cases vs with
        | nil => exact h.elim
        | cons v vs =>
          cases ds with
          | nil => exact h.elim
          | cons d ds => obtain ⟨p1, q1, -, h2, -⟩ := h; simp [ih h2]
    exact this hA
  refine (call_true hfn hlaw hp hval hA hsh).mono ?_
  rintro e W' ⟨rfl, hb⟩
  exact ⟨_, rfl, post_of_true hW hvars hres Try.underlying4 (by rw [List.append_nil]; exact hspec H ds hlen) laidOut ht hb⟩
noncomputable def laidWorld (os : Os) : World := World.holding Try.prog os ⟨#[], #[], []⟩
end Go.Proofs.Ytdibpeknpmhknaa
