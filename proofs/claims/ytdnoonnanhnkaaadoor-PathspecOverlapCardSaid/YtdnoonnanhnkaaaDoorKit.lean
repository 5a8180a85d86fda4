/- Generic vocabulary: slices of arguments, slices that grow, arrays in the store, casts. -/
import Derived.Test.YtdnoonnanhnkaaaDoorTreeEval
import Derived.Test.YtdnoonnanhnkaaaDoorGlue
set_option linter.unusedVariables false
set_option linter.unusedSimpArgs false
set_option maxRecDepth 20000
set_option maxHeartbeats 2000000
namespace Go.Proofs.YtdnoonnanhnkaaaDoor
open Go

theorem wrap_u64 {x : Int} (h0 : 0 ≤ x) (h1 : x < 18446744073709551616) : IntKind.u64.wrap x = x := by
  simp -implicitDefEqProofs [IntKind.wrap, IntKind.bits, IntKind.signed]
  omega

theorem wrap_i64 {x : Int} (h0 : -9223372036854775808 ≤ x) (h1 : x < 9223372036854775808) : IntKind.i64.wrap x = x := by
  simp -implicitDefEqProofs [IntKind.wrap, IntKind.bits, IntKind.signed]
  omega

theorem wrap_succ {i : Nat} (h : i < 1000000000000) : IntKind.i64.wrap ((i : Int) + 1) = ((i + 1 : Nat) : Int) := by rw [wrap_i64 (by omega) (by omega)]; rfl
theorem wrap_add {i j : Nat} (h : i + j < 1000000000000) : IntKind.i64.wrap ((i : Int) + (j : Int)) = ((i + j : Nat) : Int) := by rw [wrap_i64 (by omega) (by omega)]; rfl
theorem wrap_pred {i : Nat} (h : i < 1000000000000) : IntKind.i64.wrap (((i + 1 : Nat) : Int) - 1) = (i : Int) := by rw [wrap_i64 (by omega) (by omega)]; omega
theorem wrap_pred' {i : Nat} (h : i < 1000000000000) : IntKind.i64.wrap ((i : Int) + 1 - 1) = (i : Int) := by rw [wrap_i64 (by omega) (by omega)]; omega

@[simp] theorem nn1 (j : Nat) : ((0 : Int) ≤ (j : Int) + 1) = True := eq_true (by omega)
@[simp] theorem np1 (j : Nat) : ((0 : Int) < (j : Int) + 1) = True := eq_true (by omega)
@[simp] theorem ne1 (j : Nat) : (((j : Int) + 1) == 0) = false := beq_eq_false_iff_ne.2 (by omega)
@[simp] theorem nl1 (j : Nat) : ((j : Int) + 1 < 0) = False := eq_false (by omega)

theorem addS {x y : List UInt8} (h : x.length + y.length ≤ 4611686018427387904) : binStr .add x y = some (.str (x ++ y)) := by
  simp only [binStr, h, if_true]

@[simp] theorem wnP_undef (b : Bool) (o : Kt (Option DVal)) : @wnP .undef b o = some .undef := by simp [wnP, wantP, DVal.isB]
@[simp] theorem wnS_undef (b : Bool) (σ : Sto) (o : Kt (Option (DVal × Sto))) : @wnS .undef b σ o = some (.undef, σ) := by simp [wnS, wantS, DVal.isB]
@[simp] theorem wnS_gt (q : Prop) (c : Bool) (σ : Sto) (o : Kt (Option (DVal × Sto))) : @wnS (gv q (.bool c)) true σ o = iteQ (q ∧ c = true) o.f (some (.undef, σ)) := by
  by_cases h : q <;> cases c <;> simp [h, wnS, wantS, DVal.isB]
@[simp] theorem wnS_gf (q : Prop) (c : Bool) (σ : Sto) (o : Kt (Option (DVal × Sto))) : @wnS (gv q (.bool c)) false σ o = iteQ (q ∧ c = false) o.f (some (.undef, σ)) := by
  by_cases h : q <;> cases c <;> simp [h, wnS, wantS, DVal.isB]

/-! Slices of arguments -/

section
variable {z : Bool} {sz : Nat} {es : List (List DVal)}
theorem slD_cases (z : Bool) (sz : Nat) (es : List (List DVal)) : (slD z sz es = .nils ∧ es = []) ∨ slD z sz es = .slice false 0 sz es := by
  unfold slD
  cases z <;> cases es <;> simp
@[simp] theorem len_slD : lenSlSem [slD z sz es] = some (.int .i64 es.length) := by
  rcases slD_cases z sz es with ⟨h, rfl⟩ | h <;> rw [h] <;> rfl
@[simp] theorem idx_slD {k : IntKind} {i : Int} : idxSSem sz [slD z sz es, .int k i] = if 0 ≤ i then (es[i.toNat]?).map fun e => .elem e 0 else none := by
  rcases slD_cases z sz es with ⟨h, rfl⟩ | h <;> rw [h] <;> simp [idxSSem]
@[simp] theorem cells_slD : (slD z sz es).cells = [slD z sz es] := by
  rcases slD_cases z sz es with ⟨h, rfl⟩ | h <;> rw [h] <;> rfl
@[simp] theorem okCell_slD : (slD z sz es).okCell = true := by
  rcases slD_cases z sz es with ⟨h, rfl⟩ | h <;> rw [h] <;> rfl
@[simp] theorem okVal_slD : (slD z sz es).okVal = true := by
  rcases slD_cases z sz es with ⟨h, rfl⟩ | h <;> rw [h] <;> rfl
@[simp] theorem sealCell_slD : (slD z sz es).sealCell = some (slD z sz es) := by
  rcases slD_cases z sz es with ⟨h, rfl⟩ | h <;> rw [h] <;> rfl
@[simp] theorem sealVal_slD : (slD z sz es).sealVal = some (slD z sz es) := by
  rcases slD_cases z sz es with ⟨h, rfl⟩ | h <;> rw [h] <;> rfl
@[simp] theorem stale_slD : (slD z sz es).stale = slD z sz es := by
  rcases slD_cases z sz es with ⟨h, rfl⟩ | h <;> rw [h] <;> rfl
@[simp] theorem handBack_slD {σ : Sto} : (slD z sz es).handBack σ = some (slD z sz es) := by
  rcases slD_cases z sz es with ⟨h, rfl⟩ | h <;> rw [h] <;> simp [DVal.handBack, DVal.sealVal, DVal.sealCell]
@[simp] theorem take_slD {k : IntKind} {j : Int} : slcVSem sz false true false [slD z sz es, .int k j] = if 0 ≤ j ∧ j ≤ es.length then some (slD (z && es.isEmpty) sz (es.take j.toNat)) else none := by
  by_cases h0 : z && es.isEmpty
  · have he : es = [] := by cases es with
      | nil => rfl
      | cons e es => simp at h0
    subst he
    have : slD z sz [] = .nils := by unfold slD; rw [if_pos h0]
    rw [this]
    have h2 : (z && List.isEmpty ([] : List (List DVal))) = true := h0
    simp only [slcVSem, bounds, h2]
    by_cases hj : 0 ≤ j ∧ j ≤ 0
    · have : j = 0 := by omega
      subst this
      simp [slD]
    · have : ¬ (0 ≤ j ∧ j ≤ (([] : List (List DVal)).length : Int)) := by simpa using hj
      simp [hj]
  · have : slD z sz es = .slice false 0 sz es := by unfold slD; rw [if_neg h0]
    rw [this]
    have h2 : (z && es.isEmpty) = false := by simpa using h0
    simp only [slcVSem, bounds, h2, if_true]
    by_cases hj : 0 ≤ j ∧ j ≤ es.length
    · simp [hj, slD]
    · simp [hj]
end

/-- Strings. -/
abbrev strsD (z : Bool) (l : List (List UInt8)) : DVal := slD z 1 (l.map fun s => [DVal.str s])

theorem drop_get {α : Type} {l : List α} {i : Nat} {x : α} (h : l[i]? = some x) : l.drop i = x :: l.drop (i + 1) := by
  obtain ⟨hi, rfl⟩ := List.getElem?_eq_some_iff.1 h
  exact List.drop_eq_getElem_cons hi
theorem get_some {α : Type} {l : List α} {i : Nat} (h : i < l.length) : ∃ x, l[i]? = some x := ⟨l[i], List.getElem?_eq_getElem h⟩
theorem take_get {α : Type} {l : List α} {i : Nat} {x : α} (h : l[i]? = some x) : l.take (i + 1) = l.take i ++ [x] := by
  obtain ⟨hi, rfl⟩ := List.getElem?_eq_some_iff.1 h
  rw [List.take_add_one, List.getElem?_eq_getElem hi]; rfl

/-! A slice that is appended to from nothing -/

def apd (σ : Sto) (sz : Nat) (es : List (List DVal)) : DVal × Sto :=
  match es with
  | [] => (.nils, σ)
  | e :: es => (.slice false (σ.ntok + 3) sz (e :: es), { σ with ntok := σ.ntok + 1, fr := upd σ.fr σ.ntok ((es.length + 1) * sz) })

theorem app_apd {σ : Sto} {sz own : Nat} {es : List (List DVal)} {r : List DVal} (hl : es.length + 1 ≤ 4294967296) :
    app2Sem false sz (apd σ sz es).2 [(apd σ sz es).1, .slice false own sz [r]] = some ((apd σ sz (es ++ [r])).1, (apd σ sz (es ++ [r])).2) := by
  cases es with
  | nil => simp [apd, app2Sem, appSem, elemsOf, DVal.szOk, maxAppend]
  | cons e es =>
    have h1 : es.length + 1 + 1 ≤ maxAppend := by simpa [maxAppend] using hl
    simp only [apd, List.cons_append, app2Sem, appSem, elemsOf, DVal.szOk, Bool.and_false, Bool.false_eq_true, if_false, Bool.not_true, Bool.or_self, List.length_cons, List.length_nil, Nat.zero_add, h1, and_self, if_true, List.isEmpty_cons, List.length_append]
    rw [if_neg (by simp), if_neg (by omega), if_pos ⟨by omega, by simp [upd]⟩]
    simp [upd_upd]

/-- A slice that a call hands back fresh. -/
def frD (sz : Nat) (es : List (List DVal)) : DVal :=
  match es with
  | [] => .nils
  | e :: es => .slice false 2 sz (e :: es)

@[simp] theorem stale_frD {sz : Nat} {es : List (List DVal)} : (frD sz es).stale = slD true sz es := by
  cases es <;> rfl
@[simp] theorem okVal_apd {σ : Sto} {sz : Nat} {es : List (List DVal)} : (apd σ sz es).1.okVal = true := by
  cases es <;> simp [apd, DVal.okVal, DVal.okCell]
@[simp] theorem okCell_apd {σ : Sto} {sz : Nat} {es : List (List DVal)} : (apd σ sz es).1.okCell = true := by
  cases es <;> simp [apd, DVal.okCell]
@[simp] theorem cells_apd {σ : Sto} {sz : Nat} {es : List (List DVal)} : (apd σ sz es).1.cells = [(apd σ sz es).1] := by
  cases es <;> simp [apd, DVal.cells]
@[simp] theorem seal_apd {σ : Sto} {sz : Nat} {es : List (List DVal)} : (apd σ sz es).1.sealCell = some (slD true sz es) := by
  cases es <;> simp [apd, DVal.sealCell, slD]
@[simp] theorem sealVal_apd {σ : Sto} {sz : Nat} {es : List (List DVal)} : (apd σ sz es).1.sealVal = some (slD true sz es) := by
  cases es <;> simp [apd, DVal.sealVal, DVal.sealCell, slD]
@[simp] theorem len_apd {σ : Sto} {sz : Nat} {es : List (List DVal)} : lenSlSem [(apd σ sz es).1] = some (.int .i64 es.length) := by
  cases es <;> simp [apd, lenSlSem, goI]
@[simp] theorem back_apd {σ : Sto} {sz : Nat} {es : List (List DVal)} : (apd σ sz es).1.handBack (apd σ sz es).2 = some (frD sz es) := by
  cases es with
  | nil => rfl
  | cons e es => simp [apd, DVal.handBack, upd, frD]

/-! Arrays in the store -/

/-- The cells f 0, .., f (n - 1). -/
def arrD (n : Nat) (f : Nat → DVal) : DVal := .agg ((List.range n).map f)

theorem arr_get {n i : Nat} {f : Nat → DVal} (h : i < n) : ((List.range n).map f)[i]? = some (f i) := by simp [h]

theorem arr_set {n i : Nat} {f : Nat → DVal} {v : DVal} (h : i < n) : ((List.range n).map f).take i ++ ([v] ++ ((List.range n).map f).drop (i + 1)) = (List.range n).map (upd f i v) := by
  have e : (List.range n).map (upd f i v) = ((List.range n).map f).set i v := by
    apply List.ext_getElem?
    intro j
    rw [List.getElem?_set]
    by_cases hj : j < n
    · by_cases hij : i = j
      · subst hij; simp [hj, upd]
      · simp [hj, upd, hij, Ne.symm hij]
    · simp [hj]
      intro e; omega
  rw [e, List.set_eq_take_append_cons_drop, if_pos (by simpa using h)]
  rfl

theorem upd_same {α : Type} (f : Nat → α) (i : Nat) (v : α) : upd f i v i = v := by simp [upd]
theorem upd_ne {α : Type} (f : Nat → α) {i j : Nat} (v : α) (h : j ≠ i) : upd f i v j = f j := by simp [upd, h]

/-- A place of a slice that may be written. -/
theorem idx_ms {k : IntKind} {id n cap i : Nat} (h : i < n) : idxSSem 1 [.mslice id 0 n cap, .int k i] = some (.obj id i) := by
  have : (i : Int) < n := by omega
  simp [idxSSem, this]

theorem len_ms {id off n cap : Nat} : lenSlSem [.mslice id off n cap] = some (.int .i64 n) := rfl

/-- What is read of an array in the store. -/
theorem ld_arr {σ : Sto} {id n i : Nat} {f : Nat → DVal} (ho : σ.obj id = arrD n f) (hid : id < σ.nobj) (h : i < n) : ldOSem σ none [.obj id i] = some (f i, σ) := by
  simp only [ldOSem, hid, if_true, ho, arrD, readCells, arr_get h, Option.map_some]

/-- The store with another array. -/
def Sto.put (σ : Sto) (id : Nat) (d : DVal) : Sto := { σ with obj := upd σ.obj id d }
@[simp] theorem Sto.put_obj {σ : Sto} {id : Nat} {d : DVal} : (σ.put id d).obj id = d := by simp [Sto.put, upd]
theorem Sto.put_obj_ne {σ : Sto} {id j : Nat} {d : DVal} (h : j ≠ id) : (σ.put id d).obj j = σ.obj j := by simp [Sto.put, upd, h]
@[simp] theorem Sto.put_nobj {σ : Sto} {id : Nat} {d : DVal} : (σ.put id d).nobj = σ.nobj := rfl
@[simp] theorem Sto.put_ntok {σ : Sto} {id : Nat} {d : DVal} : (σ.put id d).ntok = σ.ntok := rfl
@[simp] theorem Sto.put_fr {σ : Sto} {id : Nat} {d : DVal} : (σ.put id d).fr = σ.fr := rfl
@[simp] theorem Sto.put_put {σ : Sto} {id : Nat} {d e : DVal} : (σ.put id d).put id e = σ.put id e := by simp [Sto.put, upd_upd]

theorem put_self {σ : Sto} {id : Nat} {d : DVal} (h : σ.obj id = d) : σ.put id d = σ := by
  cases σ
  simp only [Sto.put, Sto.mk.injEq, and_true, true_and]
  funext j
  simp only [upd]
  split
  · rename_i e; subst e; exact h.symm
  · rfl

/-- One cell. -/
theorem st_arr {σ : Sto} {id n i : Nat} {f : Nat → DVal} {v : DVal} (ho : σ.obj id = arrD n f) (hid : id < σ.nobj) (h : i < n) (hc : v.cells = [v]) (hv : v.okCell = true) :
    stOSem σ 1 [.obj id i, v] = some (.undef, σ.put id (arrD n (upd f i v))) := by
  have hl : i + 1 ≤ n := by omega
  simp only [stOSem, hid, hc, List.length_cons, List.length_nil, List.all_cons, hv, List.all_nil, Bool.and_self, and_self, if_true, ho, arrD, writeCells, List.length_map, List.length_range, hl, arr_set h, Option.map_some]
  rfl

/-- A new object. -/
def Sto.new (σ : Sto) (d : DVal) : Sto := { σ with nobj := σ.nobj + 1, obj := upd σ.obj σ.nobj d }
@[simp] theorem Sto.new_obj {σ : Sto} {d : DVal} : (σ.new d).obj σ.nobj = d := by simp [Sto.new, upd]
theorem Sto.new_obj_ne {σ : Sto} {j : Nat} {d : DVal} (h : j < σ.nobj) : (σ.new d).obj j = σ.obj j := by simp [Sto.new, upd]; intro e; omega
@[simp] theorem Sto.new_nobj {σ : Sto} {d : DVal} : (σ.new d).nobj = σ.nobj + 1 := rfl
@[simp] theorem Sto.new_ntok {σ : Sto} {d : DVal} : (σ.new d).ntok = σ.ntok := rfl
@[simp] theorem Sto.new_fr {σ : Sto} {d : DVal} : (σ.new d).fr = σ.fr := rfl
@[simp] theorem Sto.new_put {σ : Sto} {d e : DVal} : (σ.new d).put σ.nobj e = σ.new e := by simp [Sto.new, Sto.put, upd_upd]

theorem make_arr {σ : Sto} {z : DVal} {n : Nat} (h : n ≤ 1048576) : makeSem σ [z] [.int .i64 n, .int .i64 n] = some (.mslice σ.nobj 0 n n, σ.new (arrD n fun _ => z)) := by
  have h' : (n : Int) ≤ 1048576 := by omega
  have e : (List.replicate n [z]).flatten = (List.range n).map fun _ => z := by
    rw [List.map_const', List.length_range]
    induction n with
    | zero => rfl
    | succ n ih => simp only [List.replicate_succ, List.flatten_cons, List.cons_append, List.nil_append]; rw [ih (by omega) (by omega)]
  simp only [makeSem, true_and, h', Int.natCast_nonneg, if_true, Int.toNat_natCast, e]
  rfl

/-- What is read of an object of the store, and written to it. -/
theorem ld_obj {σ : Sto} {id off : Nat} {cs : List DVal} (sz : Option Nat) (ho : σ.obj id = .agg cs) (hid : id < σ.nobj) : ldOSem σ sz [.obj id off] = (readCells cs off sz).map fun v => (v, σ) := by
  simp only [ldOSem, hid, if_true, ho]
theorem st_obj {σ : Sto} {id off k : Nat} {cs : List DVal} {v : DVal} (ho : σ.obj id = .agg cs) (hid : id < σ.nobj) (hk : v.cells.length = k) (hv : v.cells.all DVal.okCell = true) :
    stOSem σ k [.obj id off, v] = (writeCells cs off v.cells).map fun cs' => (.undef, σ.put id (.agg cs')) := by
  simp only [stOSem, hid, hk, hv, and_self, if_true, ho]
  rfl
theorem alloc_obj {σ : Sto} {z : List DVal} : allocOSem σ z [] = some (.obj σ.nobj 0, σ.new (.agg z)) := rfl

/-- f up to i, g from there on. -/
def upto {α : Type} (i : Nat) (f g : Nat → α) : Nat → α := fun j => if j < i then f j else g j
theorem upto_zero {α : Type} (f g : Nat → α) : upto 0 f g = g := by funext j; simp [upto]
theorem upto_succ {α : Type} (i : Nat) (f g : Nat → α) : upd (upto i f g) i (f i) = upto (i + 1) f g := by
  funext j
  simp only [upd, upto]
  by_cases h : j = i
  · subst h; simp
  · by_cases h2 : j < i
    · simp [h, h2, (by omega : j < i + 1)]
    · simp [h, h2]; intro; omega
theorem upto_lt {α : Type} {i j : Nat} (f g : Nat → α) (h : j < i) : upto i f g j = f j := by simp [upto, h]
theorem arr_upto {n : Nat} {f g : Nat → DVal} : arrD n (upto n f g) = arrD n f := by
  unfold arrD
  congr 1
  apply List.map_congr_left
  intro j hj
  exact upto_lt _ _ (by simpa using hj)
/-- f from i on, g below. -/
def from' {α : Type} (i : Nat) (f g : Nat → α) : Nat → α := fun j => if i ≤ j then f j else g j
theorem from_pred {α : Type} (i : Nat) (f g : Nat → α) : upd (from' (i + 1) f g) i (f i) = from' i f g := by
  funext j
  simp only [upd, from']
  by_cases h : j = i
  · subst h; simp
  · by_cases h2 : i + 1 ≤ j
    · simp [h, h2, (by omega : i ≤ j)]
    · simp [h, h2]; intro; omega
theorem from_ge {α : Type} {i j : Nat} (f g : Nat → α) (h : i ≤ j) : from' i f g j = f j := by simp [from', h]
theorem from_zero {α : Type} (f g : Nat → α) : from' 0 f g = f := by funext j; simp [from']
theorem arr_from {n : Nat} {f g : Nat → DVal} : arrD n (from' n f g) = arrD n g := by
  unfold arrD
  congr 1
  apply List.map_congr_left
  intro j hj
  have : j < n := by simpa using hj
  simp [from']
  intro; omega

end Go.Proofs.YtdnoonnanhnkaaaDoor
