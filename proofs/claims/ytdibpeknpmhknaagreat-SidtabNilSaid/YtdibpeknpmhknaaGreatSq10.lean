/- Texts of this proof, part 10: see the card for what is proved. -/
import Derived.Test.YtdibpeknpmhknaaGreatSq01
import Derived.Test.YtdibpeknpmhknaaGreatSq06
import Derived.Lib.Join
import Derived.Shelf.Strings.OnBuilder
import Derived.Test.YtdibpeknpmhknaaGreatChecked
import Derived.KernelRfl
import Derived.Test.YtdibpeknpmhknaaGreatSq09
import Derived.Test.YtdibpeknpmhknaaGreatSq05
import Derived.Test.YtdibpeknpmhknaaGreatRows
import Derived.ProofKit
import Derived.OpenShut
import Derived.Deep.DeepHandedRow
set_option linter.unusedVariables false
set_option linter.unusedSimpArgs false
set_option maxRecDepth 100000
namespace Go.Proofs.YtdibpeknpmhknaaGreat
open Go Go.RowKit Go.Shelf
section
variable {P : Program} {ρ : Ren} {Gl : List (Nat × Value)}
theorem strs_rel {V : Vw} {w : World} {b : Nat} : ∀ {es : List (List Qa)} {xs : List (List UInt8)} {off : Nat}, QC V w 2 b 1 off es → U7 es = some xs →
  xs.length = es.length ∧ ∀ (j : Nat) (x : List UInt8), xs[j]? = some x → V.imm b (off + j) ∧ w.cell? ⟨b, off + j, none⟩ = some (.string ⟨x.toArray⟩)
 | [], xs, off, h, hs => by
  simp only [U7, Option.some.injEq] at hs
  subst hs
  exact ⟨rfl, fun j x hx => by simp at hx⟩
 | e :: es, xs, off, h, hs => by
  unfold U7 at hs
  split at hs
  ·rename_i he; cases he
  ·rename_i s es' he
   simp only [List.cons.injEq] at he
   obtain ⟨rfl, rfl⟩ := he
   simp only [Option.map_eq_some_iff] at hs
   obtain ⟨ys, hy, rfl⟩ := hs
   simp only [QC, Zd] at h
   obtain ⟨-, ⟨h1, ⟨v, h2, -, h3⟩, -⟩, h4⟩ := h
   simp only [Qn] at h3
   subst h3
   obtain ⟨g1, g2⟩ := strs_rel h4 hy
   refine ⟨by simp [g1], fun j x hx => ?_⟩
   cases j with
   | zero => simp only [List.getElem?_cons_zero, Option.some.injEq] at hx; subst hx; exact ⟨h1, h2⟩
   | succ j => rw [List.getElem?_cons_succ] at hx; have := g2 j x hx; rwa [show off + 1 + j = off + (j + 1) by omega] at this
  ·cases hs
theorem prim_join (L : Lays.n156 P ρ) (X : Builder.Extra P ρ) : XW P Gl (ρ.f 156) VX := by
 intro I w ds vs r hI hG hv hs
 have hcall : callable P (ρ.f 156) := ⟨_, L.f156, rfl, rfl⟩
 unfold VX at hs
 split at hs
 ·rename_i own es sep
  obtain ⟨v, u, rfl, h1, h2⟩ := hv.two
  simp only [Qn] at h1 h2
  subst h2
  obtain ⟨-, b, off, cap, rfl, h3, -, h4⟩ := h1
  simp only [Option.bind_eq_some_iff] at hs
  obtain ⟨xs, hx, hs⟩ := hs
  split at hs
  ·rename_i hlen
   simp only [Option.some.injEq] at hs
   subst hs
   obtain ⟨g1, g2⟩ := strs_rel h4 hx
   refine ⟨hcall, ?_⟩
   cases hxs : xs with
   | nil =>
    subst hxs
    have he : es.length = 0 := by simpa using g1.symm
    rw [he]
    refine (Any.strings_Join_none L X _ cap ⟨sep.toArray⟩ w).mono ?_
    rintro e w' ⟨rfl, rfl⟩
    exact ⟨_, rfl, Below.refl _ _, by simp [Wh, Qn, Lib.join_nil]⟩
   | cons x0 xs' =>
    have hb : b < w.heap.size := by
     have := (g2 0 x0 (by rw [hxs]; rfl)).1
     exact (Ys.1 this).1
    have := Any.strings_Join L X b off cap (xs.map λx=> (⟨x.toArray⟩ : ByteArray)) ⟨sep.toArray⟩ w (fun j x hj => by
     rw [List.getElem?_map, Option.map_eq_some_iff] at hj
     obtain ⟨y, hy, rfl⟩ := hj
     exact (g2 j y hy).2) hb (by simpa using hlen.1) (by simp; omega) (by simpa [Function.comp_def] using hlen.2)
    rw [List.length_map, g1] at this
    refine this.mono ?_
    rintro e w' ⟨rfl, hbel⟩
    refine ⟨_, rfl, hbel, ?_⟩
    simp [Wh, Qn, Function.comp_def, hxs]
  ·cases hs
 ·rename_i sep
  obtain ⟨v, u, rfl, h1, h2⟩ := hv.two
  simp only [Qn] at h1 h2
  subst h1 h2
  simp only [Option.some.injEq] at hs
  subst hs
  refine ⟨hcall, (Any.strings_Join_none L X none 0 ⟨sep.toArray⟩ w).mono ?_⟩
  rintro e w' ⟨rfl, rfl⟩
  exact ⟨_, rfl, Below.refl _ _, by simp [Wh, Qn]⟩
 ·cases hs
end
end Go.Proofs.YtdibpeknpmhknaaGreat
namespace Go.Proofs.YtdibpeknpmhknaaGreat
open Go Go.Shelf
def ren156 : Go.Shelf.Ren := ⟨fun | 156 => 148 | 165 => 161 | 166 => 162 | 169 => 163 | 240 => 167 | 241 => 168 | 276 => 172 | 277 => 173 | n => n, fun | 31 => 28 | 9 => 9 | 3 => 3 | 4 => 4 | 0 => 0 | 20 => 20 | 72 => 240 | 76 => 244 | 70 => 237 | 37 => 238 | 75 => 243 | 127 => 248 | 164 => 249 | 5 => 5 | 80 => 246 | n => n, λn=> n⟩
theorem lays156 : Lays.n156 Tryz.prog ren156 where
 mixed := by kernel_rfl
 f156 := Tryz.func148.trans (congrArg some (by kernel_rfl))
 f165 := Tryz.func161.trans (congrArg some (by kernel_rfl))
 f166 := Tryz.func162.trans (congrArg some (by kernel_rfl))
 f169 := Tryz.func163.trans (congrArg some (by kernel_rfl))
 f240 := Tryz.func167.trans (congrArg some (by kernel_rfl))
 f241 := Tryz.func168.trans (congrArg some (by kernel_rfl))
 f276 := Tryz.func172.trans (congrArg some (by kernel_rfl))
 f277 := Tryz.func173.trans (congrArg some (by kernel_rfl))
 t0 := Tryz.underlying0
 a0 := Tryz.isAgg0
 z0 := Tryz.sizeOf0
 v0 := Tryz.zeroValue0
 t3 := Tryz.underlying3
 a3 := Tryz.isAgg3
 z3 := Tryz.sizeOf3
 v3 := Tryz.zeroValue3
 t4 := Tryz.underlying4
 a4 := Tryz.isAgg4
 z4 := Tryz.sizeOf4
 v4 := Tryz.zeroValue4
 t9 := Tryz.underlying9
 a9 := Tryz.isAgg9
 z9 := Tryz.sizeOf9
 v9 := Tryz.zeroValue9
 t20 := Tryz.underlying20
 a20 := Tryz.isAgg20
 z20 := Tryz.sizeOf20
 v20 := Tryz.zeroValue20
 t31 := Tryz.underlying28
 a31 := Tryz.isAgg28
 z31 := Tryz.sizeOf28
 v31 := Tryz.zeroValue28
 t37 := Tryz.underlying238
 a37 := Tryz.isAgg238
 z37 := Tryz.sizeOf238
 v37 := Tryz.zeroValue238
 t70 := Tryz.underlying237
 a70 := Tryz.isAgg237
 z70 := Tryz.sizeOf237
 v70 := Tryz.zeroValue237
 t72 := Tryz.underlying240
 a72 := Tryz.isAgg240
 z72 := Tryz.sizeOf240
 v72 := Tryz.zeroValue240
 t75 := Tryz.underlying243
 a75 := Tryz.isAgg243
 z75 := Tryz.sizeOf243
 v75 := Tryz.zeroValue243
 t76 := Tryz.underlying244
 a76 := Tryz.isAgg244
 z76 := Tryz.sizeOf244
 v76 := Tryz.zeroValue244
 t127 := Tryz.underlying248
 a127 := Tryz.isAgg248
 z127 := Tryz.sizeOf248
 v127 := Tryz.zeroValue248
 t164 := Tryz.underlying249
 a164 := Tryz.isAgg249
 z164 := Tryz.sizeOf249
 v164 := Tryz.zeroValue249
theorem extra156 : Builder.Extra Tryz.prog ren156 where
 sizeBuilder := by kernel_rfl
 liesBuilder := by kernel_rfl
 t5 := Tryz.underlying5
 a5 := Tryz.isAgg5
 z5 := Tryz.sizeOf5
 v5 := Tryz.zeroValue5
 infoByte := by kernel_rfl
 cellsByte := by kernel_rfl
 sizeByte := by kernel_rfl
 neB5 := by decide
end Go.Proofs.YtdibpeknpmhknaaGreat
namespace Go.Proofs.YtdibpeknpmhknaaGreat
open Go Go.Shelf
theorem table_ok : AllJ Tryz.prog [] table :=
 ⟨prim_join lays156 extra156, K3, K4, K5, K6, K7, K8, K9, K10, K11, K12, K13, K14, K15, K16, K17, K18, K19, K20, K21, K22, K23, K24, K25, K26, K27, K28, K29, K30, K31, K32, K33, K34, K35, K36, K37, K38, K39, K40, K41, K42, K43, K44, K45, K46, K47, K48, K49, K50, K51, K52, K53, K54, K55, K56, K57, K58, K59, K60, K61, K62, K63, K64, K65, K66, K67, K68, K69, K70, K71, K72, K73, K74, K75, K76, K77, K78, K79, K80, K81, K82, K83, K84, K85, K86, K87, K88, K89, K90, K91, K92, K93, K94, K95, K96, K97, K98, K99, K100, K101, K102, K103, K104, K105, K106, K107, K108, K109, K110, K111, K112, K113, K114, K115, K116, K117, K118, K119, K120, K121, K122, K123, K124, K125, K126, K127, K128, K129, K130, K131, K132, K133, K134, K135, K136, K137, K138, K139, K140, K141, K142, K143, K144, K145, K146, K147, K149, K150, K151, K152, K153, K154, K155, K156, K157, K158, K159, K160, K164, K165, K166, K169, K170, K171, trivial⟩
end Go.Proofs.YtdibpeknpmhknaaGreat
namespace Go.Proofs.YtdibpeknpmhknaaGreat
open Go Go.ChangeShapes Go.WideShapes Go.ChangeAt Go.RowKit
theorem own : ownKnob Tryz.prog.godebug = none := by kernel_rfl
theorem laidOut : laidOutB Tryz.prog = true := by kernel_rfl
def argS : List TypeId := [3, 4, 9, 22, 23, 24, 25, 26, 27, 28, 29, 30, 31, 32, 33, 34, 35, 36, 37, 39, 40, 54, 63, 65, 67, 69, 89, 91, 93, 118, 120, 123, 124, 126, 129, 132, 134, 136, 138, 169, 171, 174, 181]
theorem argS_plain : JU Tryz.prog argS = true := by kernel_rfl
theorem call_true {f : Nat} {fn : Func} (hfn : Tryz.prog.funcs[f]? = some fn) (hlaw : ∀ k Ds, Yk Tryz.prog k fn.params.toList Ds → ∃ n, cpJ PR n f Ds = some (.bool true))
  (hp : fn.params.toList.all argS.contains = true)
  {H : Type} {enc : TypeId × Value → H} {W : World} {base : Nat} {args : Array Value} {ds : List (DataW H)} {p : List MemPlace}
  (hval : ∀ (j : Nat) t v, fn.params[j]? = some t → args[j]? = some v → Value.okWide Tryz.prog W .any base t v)
  (hA : DataW.TrodAll enc Tryz.prog W 0 (λ_=> true) true fn.params.toList args.toList ds p) (hsh : W.ShapedOpen Tryz.prog) :
  Calls Tryz.prog f args W fun e W' => e = .returned (.bool true) ∧ Below W.heap.size W W' := by
 obtain ⟨k, Ds, h1, h2⟩ := args_rel (w := W) argS_plain (base := base) hp (fun j t v ht hv => hval j t v (by simpa using ht) (by simpa using hv)) hA
 have hG : Vl [] (oldI W) W := fun x hx => by simp at hx
 obtain ⟨n, hlaw⟩ := hlaw k Ds h1
 have := ((allJ_sound table_ok n).1 f (oldI W) W Ds args.toList (.bool true) (fun b k h => h) hG h2 hlaw).2
 refine (by simpa using this : Calls Tryz.prog f args W _).mono ?_
 rintro e W' ⟨v, rfl, hbel, hrel⟩
 simp only [Wh, Qn] at hrel
 exact ⟨by rw [hrel], hbel⟩
theorem contract {f : Nat} {fn : Func} {s : ChangeSpec} (hfn : Tryz.prog.funcs[f]? = some fn) (hlaw : ∀ k Ds, Yk Tryz.prog k fn.params.toList Ds → ∃ n, cpJ PR n f Ds = some (.bool true))
  (hp : fn.params.toList.all argS.contains = true) (hres : fn.resultTypes = #[4]) (hvars : s.vars = [])
  (hspec : ∀ (H : Type) (ds : List (DataW H)), ds.length = fn.params.toList.length → s.fn H ds = { results := [.lit (.bool true)], args := ds, vars := [] })
  (ht : ∀ t, t ∈ fn.params.toList → Tryz.prog.readableRec t = true ∧ t < Tryz.prog.types.size)
  {H : Type} {enc : TypeId × Value → H} {W : World} {base : Nat} {args : Array Value} {ds gs : List (DataW H)} {before : List MemPlace}
  (hval : ∀ (j : Nat) t v, fn.params[j]? = some t → args[j]? = some v → Value.okWide Tryz.prog W .any base t v)
  (hW : DataW.Whole enc Tryz.prog fn.params.toList s.vars false W args.toList ds gs before) (hsh : W.ShapedOpen Tryz.prog) :
  Calls Tryz.prog f args W fun e W' => ∃ v, e = .returned v ∧ s.post enc Tryz.prog fn false true false false W args v W' := by
 obtain ⟨p, q, hA, hV, hpq, hz, hn⟩ := id hW
 have hg : gs = [] := by
  rw [hvars] at hV
  cases gs with
  | nil => rfl
  | cons g gs => exact hV.elim
 subst hg
 have hlen : ds.length = fn.params.toList.length := by
  have : ∀ {ts : List TypeId} {vs : List Value} {ds : List (DataW H)} {p : List MemPlace}, DataW.TrodAll enc Tryz.prog W 0 (λ_=> true) true ts vs ds p → ds.length = ts.length := by
   intro ts
   induction ts with
   | nil => intro vs ds p h; cases vs <;> cases ds <;> first | rfl | exact h.elim
   | cons t ts ih =>
    intro vs ds p h
    cases vs with
    | nil => exact h.elim
    | cons v vs =>
     cases ds with
     | nil => exact h.elim
     | cons d ds => obtain ⟨p1, q1, -, h2, -⟩ := h; simp [ih h2]
  exact this hA
 refine (call_true hfn hlaw hp hval hA hsh).mono ?_
 rintro e W' ⟨rfl, hb⟩
 exact ⟨_, rfl, post_of_true hW hvars hres Tryz.underlying4 (by rw [List.append_nil]; exact hspec H ds hlen) laidOut ht hb⟩
noncomputable def laidWorld (os : Os) : World := World.holding Tryz.prog os ⟨#[], #[], []⟩
end Go.Proofs.YtdibpeknpmhknaaGreat
