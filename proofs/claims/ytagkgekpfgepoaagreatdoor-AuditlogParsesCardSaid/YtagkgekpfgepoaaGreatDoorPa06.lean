/- Texts of this proof, part 6: see the card for what is proved. -/
import Derived.Test.YtagkgekpfgepoaaGreatDoorPa05
namespace Go.Proofs.YtagkgekpfgepoaaGreatDoor
set_option linter.unusedVariables false
set_option linter.unusedSimpArgs false
set_option maxRecDepth 20000
set_option maxHeartbeats 4000000
open Go
def rootS : Bs := [114, 111, 111, 116, 58, 115, 121, 115, 116, 101, 109, 58, 117, 115, 101, 114, 95, 116, 58, 115, 48]
def sampleR (t : Bs) : RecV := ⟨5, 1, false, false, rootS, t, [102, 105, 108, 101], ⟨.lit, [[114, 101, 97, 100], [119, 114, 105, 116, 101]]⟩, 2⟩
def fileS : Bs := [114, 111, 111, 116, 58, 111, 98, 106, 101, 99, 116, 95, 114, 58, 102, 105, 108, 101, 95, 116, 58, 115, 48]
def exS : Bs := [100, 101, 110, 105, 101, 100, 32, 123, 32, 114, 101, 97, 100, 32, 119, 114, 105, 116, 101, 32, 125, 32, 102, 111, 114, 32, 114, 111, 111, 116, 58, 115, 121, 115, 116, 101, 109, 58, 117, 115, 101, 114, 95, 116, 58, 115, 48, 32, 116, 111, 32, 114, 111, 111, 116, 58, 111, 98, 106, 101, 99, 116, 95, 114, 58, 102, 105, 108, 101, 95, 116, 58, 115, 48, 32, 58, 32, 102, 105, 108, 101, 32, 116, 105, 109, 101, 32, 53, 32, 115, 101, 113, 32, 49, 32, 99, 111, 117, 110, 116, 32, 50]
theorem e26 {n : Nat} (hn : 1 ≤ n) (t : Bs) : cpJ PR n 26 [.str t] = some (sampleR t).d := by
  obtain ⟨n, rfl⟩ : ∃ m, n = m + 1 := ⟨n - 1, by omega⟩
  rw [u26]
  rfl
abbrev s0 : RecV := sampleR fileS
abbrev r1 : RecV := { s0 with time := 0, count := 1 }
abbrev r2 : RecV := { s0 with time := 10, count := 1 }
abbrev sb : RecV := sampleR [98]
abbrev sc : RecV := sampleR [99]
theorem chk_s0 : chkV s0 = 0 := by kernel_rfl
theorem chk_r1 : chkV r1 = 0 := by kernel_rfl
theorem chk_r2 : chkV r2 = 0 := by kernel_rfl
theorem chk_sb : chkV sb = 0 := by kernel_rfl
theorem chk_sc : chkV sc = 0 := by kernel_rfl
theorem dec_small (k : Nat) (h : k < 10) : decB (k : Int) = [UInt8.ofNat (48 + k)] := by
  rw [decB_nat, Lib.decDigits, dif_pos h]
theorem txt_s0 : textB s0 = exS := by
  have e1 : decB 5 = [53] := dec_small 5 (by omega)
  have e2 : decB 1 = [49] := dec_small 1 (by omega)
  have e3 : decB 2 = [50] := dec_small 2 (by omega)
  have e : endsB s0 = [[102, 111, 114], rootS, [116, 111], fileS, [58], [102, 105, 108, 101], [116, 105, 109, 101], [53], [115, 101, 113], [49], [99, 111, 117, 110, 116], [50]] := by
    show [_, _, _, _, _, _, _, decB 5, _, decB 1, _, decB 2] ++ [] = _
    rw [e1, e2, e3]
    rfl
  have e4 : wordsB s0 = [[100, 101, 110, 105, 101, 100], [123], [114, 101, 97, 100], [119, 114, 105, 116, 101], [125], [102, 111, 114], rootS, [116, 111], fileS, [58], [102, 105, 108, 101], [116, 105, 109, 101], [53], [115, 101, 113], [49], [99, 111, 117, 110, 116], [50]] := by
    show verbB false :: [123] :: ([[114, 101, 97, 100], [119, 114, 105, 116, 101]] ++ [125] :: endsB s0) = _
    rw [e]
    rfl
  unfold textB
  rw [e4]
  rfl
theorem name_ne {a b : RecV} (ha : chkV { a with time := 0, seq := 0, count := 1 } = 0) (hb : chkV { b with time := 0, seq := 0, count := 1 } = 0) (h : a.tgt ≠ b.tgt) : nameV a ≠ nameV b := by
  intro e
  have := text_inj ha hb e
  have := congrArg RecV.tgt this
  exact h this
theorem allow_of {L : LimV} {k : Bs} {now t : Int} {b B : BktV} (ht : atV L now = t) (hl : (match lookB k L.bk 0 with | some (_, b) => b | none => ⟨L.burst, t, 0⟩) = b) (hB : filledV L b t = B) :
    allowV L k now = if B.left = 0 then (⟨L.burst, L.interval, t, L.allowed, w64 (L.denied + 1), setB k ⟨B.left, B.clock, w64 (B.dropped + 1)⟩ L.bk⟩, false) else (⟨L.burst, L.interval, t, w64 (L.allowed + 1), L.denied, setB k ⟨w64 (B.left - 1), B.clock, 0⟩ L.bk⟩, true) := by
  subst ht
  subst hl
  subst hB
  rfl
section
variable {K0 Kb Kc : Bs} (hb : Kb ≠ K0) (hc : Kc ≠ K0) (hcb : Kc ≠ Kb)
def W0 : LimV := limNew 2 10
def W1 (K0 : Bs) : LimV := ⟨2, 10, 0, 1, 0, [(K0, ⟨1, 0, 0⟩)]⟩
def W2 (K0 : Bs) : LimV := ⟨2, 10, 0, 2, 0, [(K0, ⟨0, 0, 0⟩)]⟩
def W3 (K0 : Bs) : LimV := ⟨2, 10, 0, 2, 1, [(K0, ⟨0, 0, 1⟩)]⟩
def W4 (K0 : Bs) : LimV := ⟨2, 10, 10, 3, 1, [(K0, ⟨0, 10, 0⟩)]⟩
def W5 (K0 Kb : Bs) : LimV := ⟨2, 10, 10, 4, 1, [(K0, ⟨0, 10, 0⟩), (Kb, ⟨1, 10, 0⟩)]⟩
def W6 (K0 Kb Kc : Bs) : LimV := ⟨2, 10, 10, 5, 1, [(K0, ⟨0, 10, 0⟩), (Kb, ⟨1, 10, 0⟩), (Kc, ⟨1, 10, 0⟩)]⟩
theorem a1 : allowV W0 K0 0 = (W1 K0, true) := by
  rw [allow_of (t := 0) (b := ⟨2, 0, 0⟩) (B := ⟨2, 0, 0⟩) (by kernel_rfl) rfl (by kernel_rfl)]
  kernel_rfl
theorem a2 : allowV (W1 K0) K0 0 = (W2 K0, true) := by
  rw [allow_of (t := 0) (b := ⟨1, 0, 0⟩) (B := ⟨1, 0, 0⟩) (by kernel_rfl) (by simp [W1, lookB]) (by kernel_rfl)]
  rw [if_neg (by decide)]
  simp only [W1, setB, lookB, if_true, List.set_cons_zero]
  kernel_rfl
theorem a3 : allowV (W2 K0) K0 0 = (W3 K0, false) := by
  rw [allow_of (t := 0) (b := ⟨0, 0, 0⟩) (B := ⟨0, 0, 0⟩) (by kernel_rfl) (by simp [W2, lookB]) (by kernel_rfl)]
  rw [if_pos rfl]
  simp only [W2, setB, lookB, if_true, List.set_cons_zero]
  kernel_rfl
theorem a4 : allowV (W3 K0) K0 10 = (W4 K0, true) := by
  rw [allow_of (t := 10) (b := ⟨0, 0, 1⟩) (B := ⟨1, 10, 1⟩) (by kernel_rfl) (by simp [W3, lookB]) (by kernel_rfl)]
  rw [if_neg (by decide)]
  simp only [W3, setB, lookB, if_true, List.set_cons_zero]
  kernel_rfl
include hb in
theorem a5 : allowV (W4 K0) Kb 5 = (W5 K0 Kb, true) := by
  rw [allow_of (t := 10) (b := ⟨2, 10, 0⟩) (B := ⟨2, 10, 0⟩) (by kernel_rfl) (by simp [W4, lookB, hb]) (by kernel_rfl)]
  rw [if_neg (by decide)]
  simp only [W4, setB, lookB, if_neg hb, List.cons_append, List.nil_append]
  kernel_rfl
include hc hcb in
theorem a6 : allowV (W5 K0 Kb) Kc 5 = (W6 K0 Kb Kc, true) := by
  rw [allow_of (t := 10) (b := ⟨2, 10, 0⟩) (B := ⟨2, 10, 0⟩) (by kernel_rfl) (by simp [W5, lookB, hc, hcb]) (by kernel_rfl)]
  rw [if_neg (by decide)]
  simp only [W5, setB, lookB, if_neg hc, if_neg hcb, List.cons_append, List.nil_append]
  kernel_rfl
end
def M0 : LogV := ⟨2, 0, 0, [], W0⟩
def M1 : LogV := ⟨2, 0, 0, [r1], W1 (nameV s0)⟩
def M2 : LogV := ⟨2, 0, 0, [{ r1 with count := 2 }], W2 (nameV s0)⟩
def M3 : LogV := ⟨2, 1, 0, [{ r1 with count := 2 }], W3 (nameV s0)⟩
def M4 : LogV := ⟨2, 1, 0, [{ r1 with count := 3 }], W4 (nameV s0)⟩
def M5 : LogV := ⟨2, 1, 0, [{ r1 with count := 3 }, sb], W5 (nameV s0) (nameV sb)⟩
def M6 : LogV := ⟨2, 1, 3, [sb, sc], W6 (nameV s0) (nameV sb) (nameV sc)⟩
theorem nb : nameV sb ≠ nameV s0 := name_ne (by kernel_rfl) (by kernel_rfl) (by decide)
theorem nc : nameV sc ≠ nameV s0 := name_ne (by kernel_rfl) (by kernel_rfl) (by decide)
theorem ncb : nameV sc ≠ nameV sb := name_ne (by kernel_rfl) (by kernel_rfl) (by decide)
theorem add_of {L : LogV} {r : RecV} {W : LimV} {ok : Bool} (hc : chkV r = 0) (ha : allowV L.lim (nameV r) r.time = (W, ok)) :
    addV L r = if ok = true then (if 0 ≤ findR r L.recs 0 then ({ L with lim := W, recs := bumpL L.recs (findR r L.recs 0).toNat r.count }, false) else (pushV { L with lim := W } r, true)) else ({ L with lim := W, dropped := w64 (L.dropped + r.count) }, false) := by
  unfold addV
  rw [if_pos hc, ha]
theorem m1 : addV M0 r1 = (M1, true) := by
  rw [add_of chk_r1 (show allowV M0.lim (nameV r1) r1.time = (W1 (nameV s0), true) from a1)]
  unfold M1
  generalize nameV s0 = K
  kernel_rfl
theorem m2 : addV M1 r1 = (M2, false) := by
  rw [add_of chk_r1 (show allowV M1.lim (nameV r1) r1.time = (W2 (nameV s0), true) from a2)]
  unfold M1 M2
  generalize nameV s0 = K
  kernel_rfl
theorem m3 : addV M2 r1 = (M3, false) := by
  rw [add_of chk_r1 (show allowV M2.lim (nameV r1) r1.time = (W3 (nameV s0), false) from a3)]
  unfold M2 M3
  generalize nameV s0 = K
  kernel_rfl
theorem m4 : addV M3 r2 = (M4, false) := by
  rw [add_of chk_r2 (show allowV M3.lim (nameV r2) r2.time = (W4 (nameV s0), true) from a4)]
  unfold M3 M4
  generalize nameV s0 = K
  kernel_rfl
theorem m5 : addV M4 sb = (M5, true) := by
  rw [add_of chk_sb (show allowV M4.lim (nameV sb) sb.time = (W5 (nameV s0) (nameV sb), true) from a5 nb)]
  unfold M4 M5
  generalize nameV s0 = K
  generalize nameV sb = K'
  kernel_rfl
theorem m6 : addV M5 sc = (M6, true) := by
  rw [add_of chk_sc (show allowV M5.lim (nameV sc) sc.time = (W6 (nameV s0) (nameV sb) (nameV sc), true) from a6 nc ncb)]
  unfold M5 M6
  generalize nameV s0 = K
  generalize nameV sb = K'
  generalize nameV sc = K''
  kernel_rfl
end Go.Proofs.YtagkgekpfgepoaaGreatDoor
namespace Go.Proofs.YtagkgekpfgepoaaGreatDoor
set_option linter.unusedVariables false
set_option linter.unusedSimpArgs false
set_option maxRecDepth 20000
set_option maxHeartbeats 8000000
open Go
theorem own_idx {σ : Sto} {sz : Nat} {v : DVal} {l : List (List DVal)} {i : Nat} {r : List DVal} (h : Own σ sz v l) (hr : l[i]? = some r) : idxSSem sz [v, .int .i64 i] = some (.elem r 0) := by
  rcases h with ⟨rfl, rfl⟩ | rfl | ⟨t, rfl, ht⟩
  · simp at hr
  · simp [idxSSem, hr]
  · simp [idxSSem, hr]
theorem fit_s (t : Bs) (ht : t.length ≤ 1000) : Fit (sampleR t) ∧ stepsR (sampleR t) ≤ 2000 := by
  refine ⟨⟨by simp [sampleR, rootS], by show t.length < _; omega, by simp [sampleR], ?_, by simp [sampleR]⟩, ?_⟩
  · intro s hs
    simp only [sampleR, List.mem_cons, List.not_mem_nil, or_false] at hs
    rcases hs with rfl | rfl <;> simp
  · simp only [stepsR, sampleR, rootS, List.length_cons, List.length_nil, List.map_cons, List.map_nil, List.sum_cons, List.sum_nil]
    omega
theorem eq_parse {r : RecV} (h1 : chkV r = 0) (h2 : textB r = exS) : eqR r s0 = true := by
  rw [← strip_eq_iff]
  exact text_inj h1 chk_s0 (by rw [h2, txt_s0])
theorem room0 : Room M0 := ⟨by decide, by decide, by decide, by simp [M0]⟩
theorem room1 : Room M1 := ⟨by simp [M1, W1], by simp [M1, W1], by simp [M1], by simp [M1, sampleR]⟩
theorem room2 : Room M2 := ⟨by simp [M2, W2], by simp [M2, W2], by simp [M2], by simp [M2, sampleR]⟩
theorem room3 : Room M3 := ⟨by simp [M3, W3], by simp [M3, W3], by simp [M3], by simp [M3, sampleR]⟩
theorem room4 : Room M4 := ⟨by simp [M4, W4], by simp [M4, W4], by simp [M4], by simp [M4, sampleR]⟩
theorem room5 : Room M5 := ⟨by simp [M5, W5], by simp [M5, W5], by simp [M5], by simp [M5, sampleR]⟩
theorem room6 : Room M6 := ⟨by simp [M6, W6], by simp [M6, W6], by simp [M6], by simp [M6, sampleR]⟩
theorem one_of {c : List RecV} {x : RecV} (h : c.map RecV.strip = [x].map RecV.strip) : ∃ y, c = [y] ∧ y.strip = x.strip := by
  match c, h with
  | [y], h => exact ⟨y, rfl, by simpa using h⟩
  | [], h => simp at h
  | _ :: _ :: _, h => simp at h
theorem two_of {c : List RecV} {x x' : RecV} (h : c.map RecV.strip = [x, x'].map RecV.strip) : ∃ y y', c = [y, y'] ∧ y.strip = x.strip ∧ y'.strip = x'.strip := by
  match c, h with
  | [y, y'], h => exact ⟨y, y', rfl, by simpa using h⟩
  | [], h => simp at h
  | [_], h => simp at h
  | _ :: _ :: _ :: _, h => simp at h
def D8x (C : CallP) (I : CallI) (n : Nat) (ex t0 : Bs) (σ : Sto) : Option Out :=
  @bnd (callPS C 26 [(.str t0)]) ⟨fun x0 =>
  @bnd (jwrSem 0 9 [(.agg [(.int .i64 0), (.int .i64 0), (.bool false), (.bool false), (.str []), (.str []), (.str []), .nils, (.int .i64 0)]), x0]) ⟨fun x1 =>
  @bnd (fldSem 0 (some 9) [x1]) ⟨fun x2 =>
  @bnd (callPS C 13 [x2]) ⟨fun x3 =>
  @bnd (extSem 0 [x3]) ⟨fun x4 =>
  @bnd (extSem 1 [x3]) ⟨fun x5 =>
  @bnd (callPS C 15 [x4]) ⟨fun x6 =>
  @bnd (extSem 0 [x6]) ⟨fun x7 =>
  @bnd (extSem 1 [x6]) ⟨fun x8 =>
  @bnd (jwrSem 0 9 [(.agg [(.int .i64 0), (.int .i64 0), (.bool false), (.bool false), (.str []), (.str []), (.str []), .nils, (.int .i64 0)]), x7]) ⟨fun x9 =>
  @bnd (bin2Sem .neq [x4, (.str ex)]) ⟨fun x10 =>
  @bnd (@wnP x10 false ⟨mvSem [x5]⟩) ⟨fun x11 =>
  @bnd (@wnP x10 false ⟨bin2Sem .neq [x11, (.int .i64 0)]⟩) ⟨fun x12 =>
  @bnd (pickSem [x10, (.bool true), x12]) ⟨fun x13 =>
  @bnd (@wnP x13 false ⟨mvSem [x8]⟩) ⟨fun x14 =>
  @bnd (@wnP x13 false ⟨bin2Sem .neq [x14, (.int .i64 0)]⟩) ⟨fun x15 =>
  @bnd (pickSem [x13, (.bool true), x15]) ⟨fun x16 =>
  @bnd (@wnP x16 false ⟨fldSem 0 (some 9) [x9]⟩) ⟨fun x17 =>
  @bnd (@wnP x16 false ⟨POp.sem C [x17] (.bslice false 9)⟩) ⟨fun x18 =>
  @bnd (@wnP x16 false ⟨fldSem 0 (some 9) [x1]⟩) ⟨fun x19 =>
  @bnd (@wnP x16 false ⟨POp.sem C [x19] (.bslice false 9)⟩) ⟨fun x20 =>
  @bnd (@wnP x16 false ⟨callPS C 16 [x18, x20]⟩) ⟨fun x21 =>
  @bnd (@wnP x16 false ⟨unSem .not [x21]⟩) ⟨fun x22 =>
  @bnd (pickSem [x16, (.bool true), x22]) ⟨fun x23 =>
  @itK x23 ⟨retJ (resEx [(.bool false)]) σ⟩ ⟨@bns (callIS I 19 σ [(.int .i64 2), (.int .i64 2), (.int .i64 10)]) ⟨fun x24 σ =>
  @bnd (isnilSem 1 false [x24]) ⟨fun x25 =>
  @bns (@wnS x25 false σ ⟨callIS I 19 σ [(.int .i64 0), (.int .i64 2), (.int .i64 10)]⟩) ⟨fun x26 σ =>
  @bnd (@wnP x25 false ⟨isnilSem 1 true [x26]⟩) ⟨fun x27 =>
  @bnd (pickSem [x25, (.bool true), x27]) ⟨fun x28 =>
  @bns (@wnS x28 false σ ⟨callIS I 19 σ [(.int .i64 2), (.int .i64 0), (.int .i64 10)]⟩) ⟨fun x29 σ =>
  @bnd (@wnP x28 false ⟨isnilSem 1 true [x29]⟩) ⟨fun x30 =>
  @bnd (pickSem [x28, (.bool true), x30]) ⟨fun x31 =>
  @itK x31 ⟨retJ (resEx [(.bool false)]) σ⟩ ⟨@bnd (jwrSem 0 1 [x1, (.int .i64 0)]) ⟨fun x32 =>
  @bnd (jwrSem 8 1 [x32, (.int .i64 1)]) ⟨fun x33 =>
  @bnd (fldSem 0 (some 9) [x33]) ⟨fun x34 =>
  @bns (callIS I 23 σ [x24, x34]) ⟨fun x35 σ =>
  @bnd (fldSem 0 (some 9) [x33]) ⟨fun x36 =>
  @bns (callIS I 23 σ [x24, x36]) ⟨fun x37 σ =>
  @bnd (fldSem 0 (some 9) [x33]) ⟨fun x38 =>
  @bns (callIS I 23 σ [x24, x38]) ⟨fun x39 σ =>
  @bns (callIS I 27 σ [x24]) ⟨fun x40 σ =>
  @bnd (unSem .not [x35]) ⟨fun x41 =>
  @bnd (@wnP x41 false ⟨mvSem [x37]⟩) ⟨fun x42 =>
  @bnd (pickSem [x41, (.bool true), x42]) ⟨fun x43 =>
  @bnd (@wnP x43 false ⟨mvSem [x39]⟩) ⟨fun x44 =>
  @bnd (pickSem [x43, (.bool true), x44]) ⟨fun x45 =>
  @bnd (@wnP x45 false ⟨mvSem [x40]⟩) ⟨fun x46 =>
  @bnd (@wnP x45 false ⟨lenSlSem [x46]⟩) ⟨fun x47 =>
  @bnd (@wnP x45 false ⟨bin2Sem .neq [x47, (.int .i64 1)]⟩) ⟨fun x48 =>
  @bnd (pickSem [x45, (.bool true), x48]) ⟨fun x49 =>
  @bnd (@wnP x49 false ⟨mvSem [x40]⟩) ⟨fun x50 =>
  @bnd (@wnP x49 false ⟨idxSSem 9 [x50, (.int .i64 0)]⟩) ⟨fun x51 =>
  @bnd (@wnP x49 false ⟨offSem 8 [x51]⟩) ⟨fun x52 =>
  @bnd (@wnP x49 false ⟨ldESem none [x52]⟩) ⟨fun x53 =>
  @bnd (@wnP x49 false ⟨bin2Sem .neq [x53, (.int .i64 2)]⟩) ⟨fun x54 =>
  @bnd (pickSem [x49, (.bool true), x54]) ⟨fun x55 =>
  @itK x55 ⟨retJ (resEx [(.bool false)]) σ⟩ ⟨@bnd (jwrSem 0 1 [x33, (.int .i64 10)]) ⟨fun x56 =>
  @bnd (fldSem 0 (some 9) [x56]) ⟨fun x57 =>
  @bns (callIS I 23 σ [x24, x57]) ⟨fun x58 σ =>
  @bnd (callPS C 26 [(.str [98])]) ⟨fun x59 =>
  @bns (callIS I 23 σ [x24, x59]) ⟨fun x60 σ =>
  @bnd (callPS C 26 [(.str [99])]) ⟨fun x61 =>
  @bns (callIS I 23 σ [x24, x61]) ⟨fun x62 σ =>
  @bns (callIS I 28 σ [x24]) ⟨fun x63 σ =>
  @bnd (extSem 0 [x63]) ⟨fun x64 =>
  @bnd (extSem 1 [x63]) ⟨fun x65 =>
  @bns (callIS I 27 σ [x24]) ⟨fun x66 σ =>
  @bnd (unSem .not [x58]) ⟨fun x67 =>
  @bnd (@wnP x67 true ⟨mvSem [x62]⟩) ⟨fun x68 =>
  @bnd (pickSem [x67, x68, (.bool false)]) ⟨fun x69 =>
  @bnd (@wnP x69 true ⟨mvSem [x64]⟩) ⟨fun x70 =>
  @bnd (@wnP x69 true ⟨bin2Sem .eql [x70, (.int .i64 1)]⟩) ⟨fun x71 =>
  @bnd (pickSem [x69, x71, (.bool false)]) ⟨fun x72 =>
  @bnd (@wnP x72 true ⟨mvSem [x65]⟩) ⟨fun x73 =>
  @bnd (@wnP x72 true ⟨bin2Sem .eql [x73, (.int .i64 3)]⟩) ⟨fun x74 =>
  @bnd (pickSem [x72, x74, (.bool false)]) ⟨fun x75 =>
  @bnd (@wnP x75 true ⟨mvSem [x66]⟩) ⟨fun x76 =>
  @bnd (@wnP x75 true ⟨lenSlSem [x76]⟩) ⟨fun x77 =>
  @bnd (@wnP x75 true ⟨bin2Sem .eql [x77, (.int .i64 2)]⟩) ⟨fun x78 =>
  @bnd (pickSem [x75, x78, (.bool false)]) ⟨fun x79 =>
  @bnd (@wnP x79 true ⟨mvSem [x66]⟩) ⟨fun x80 =>
  @bnd (@wnP x79 true ⟨idxSSem 9 [x80, (.int .i64 0)]⟩) ⟨fun x81 =>
  @bnd (@wnP x79 true ⟨offSem 5 [x81]⟩) ⟨fun x82 =>
  @bnd (@wnP x79 true ⟨ldESem none [x82]⟩) ⟨fun x83 =>
  @bnd (@wnP x79 true ⟨bin2Sem .eql [x83, (.str [98])]⟩) ⟨fun x84 =>
  @bnd (pickSem [x79, x84, (.bool false)]) ⟨fun x85 =>
  @bnd (@wnP x85 true ⟨mvSem [x66]⟩) ⟨fun x86 =>
  @bnd (@wnP x85 true ⟨idxSSem 9 [x86, (.int .i64 1)]⟩) ⟨fun x87 =>
  @bnd (@wnP x85 true ⟨offSem 5 [x87]⟩) ⟨fun x88 =>
  @bnd (@wnP x85 true ⟨ldESem none [x88]⟩) ⟨fun x89 =>
  @bnd (@wnP x85 true ⟨bin2Sem .eql [x89, (.str [99])]⟩) ⟨fun x90 =>
  @bnd (pickSem [x85, x90, (.bool false)]) ⟨fun x91 =>
  retJ (resEx [x91]) σ⟩⟩⟩⟩⟩⟩⟩⟩⟩⟩⟩⟩⟩⟩⟩⟩⟩⟩⟩⟩⟩⟩⟩⟩⟩⟩⟩⟩⟩⟩⟩⟩⟩⟩⟩⟩⟩⟩⟩⟩⟩⟩⟩⟩⟩⟩⟩⟩⟩⟩⟩⟩⟩⟩⟩⟩⟩⟩⟩⟩⟩⟩⟩⟩⟩⟩⟩⟩⟩⟩⟩⟩⟩⟩⟩⟩⟩⟩⟩⟩⟩⟩⟩⟩⟩⟩⟩⟩⟩⟩⟩⟩⟩⟩⟩
theorem d8x (C : CallP) (I : CallI) (n : Nat) (σ : Sto) : D8 C I n σ = D8x C I n exS fileS σ := rfl
theorem awake_run {n : Nat} {EX T0 : Bs} {S0 R0 R1 R2 SB SC q y x1 x2 : RecV} {σ1 σ2 σ3 σ4 σ5 σ6 σ7 σ8 σ9 σ10 σ12 : Sto} {w7 w12 : DVal}
    (h26 : cpJ PR n 26 [.str T0] = some S0.d) (h13 : cpJ PR n 13 [S0.d] = some (.tup [.str EX, .int .i64 0])) (h15 : cpJ PR n 15 [.str EX] = some (.tup [q.d, .int .i64 0]))
    (sl1 : POp.sem (cpJ PR n) [q.d] (.bslice false 9) = some (.slice false 1 9 [q.row])) (sl2 : POp.sem (cpJ PR n) [S0.d] (.bslice false 9) = some (.slice false 1 9 [S0.row])) (h16 : cpJ PR n 16 [.slice false 1 9 [q.row], .slice false 1 9 [S0.row]] = some (.bool true))
    (b1 : ciJ PR n 19 [.int .i64 2, .int .i64 2, .int .i64 10] emptySto = some (.obj 2 0, σ1)) (b2 : ciJ PR n 19 [.int .i64 0, .int .i64 2, .int .i64 10] σ1 = some (.nilp, σ2)) (b3 : ciJ PR n 19 [.int .i64 2, .int .i64 0, .int .i64 10] σ2 = some (.nilp, σ3))
    (w1 : jwrSem 0 1 [S0.d, .int .i64 0] = some R0.d) (w2 : jwrSem 8 1 [R0.d, .int .i64 1] = some R1.d) (w3 : jwrSem 0 1 [R1.d, .int .i64 10] = some R2.d)
    (c4 : ciJ PR n 23 [.obj 2 0, R1.d] σ3 = some (.bool true, σ4)) (c5 : ciJ PR n 23 [.obj 2 0, R1.d] σ4 = some (.bool false, σ5)) (c6 : ciJ PR n 23 [.obj 2 0, R1.d] σ5 = some (.bool false, σ6))
    (c7 : ciJ PR n 27 [.obj 2 0] σ6 = some (w7, σ7)) (vv7 : w7.okVal = true) (len7 : lenSlSem [w7] = some (.int .i64 1)) (idx7 : idxSSem 9 [w7, .int .i64 0] = some (.elem y.row 0)) (yc : y.count = 2)
    (c8 : ciJ PR n 23 [.obj 2 0, R2.d] σ7 = some (.bool false, σ8)) (hsb : cpJ PR n 26 [.str [98]] = some SB.d) (c9 : ciJ PR n 23 [.obj 2 0, SB.d] σ8 = some (.bool true, σ9))
    (hsc : cpJ PR n 26 [.str [99]] = some SC.d) (c10 : ciJ PR n 23 [.obj 2 0, SC.d] σ9 = some (.bool true, σ10)) (c11 : ciJ PR n 28 [.obj 2 0] σ10 = some (.tup [.int .i64 1, .int .i64 3], σ10))
    (c12 : ciJ PR n 27 [.obj 2 0] σ10 = some (w12, σ12)) (len12 : lenSlSem [w12] = some (.int .i64 2)) (idx12 : idxSSem 9 [w12, .int .i64 0] = some (.elem x1.row 0)) (idx13 : idxSSem 9 [w12, .int .i64 1] = some (.elem x2.row 0)) (t1 : x1.tgt = [98]) (t2 : x2.tgt = [99]) :
    finP (D8x (cpJ PR n) (ciJ PR n) n EX T0 emptySto) = some (.bool true) := by
  simp -implicitDefEqProofs [D8x, h26, h13, h15, sl1, sl2, h16, b1, b2, b3, w1, w2, w3, c4, c5, c6, c7, len7, idx7, yc, c8, hsb, hsc, c9, c10, c11, c12, len12, idx12, idx13, t1, t2, -jwrSem.eq_1, -fldSem.eq_1, -RecV_set_time, -RecV_set_count]
theorem e8 {n : Nat} (hn : 1000000000001 ≤ n) : cpJ PR n 8 [] = some (.bool true) := by
  obtain ⟨n, rfl⟩ : ∃ m, n = m + 1 := ⟨n - 1, by omega⟩
  have h26 := e26 (n := n) (by omega) fileS
  have hfs : Fit s0 ∧ stepsR s0 ≤ 2000 := fit_s fileS (by decide)
  have h13 := e13 (n := n) s0 hfs.1 (by have := hfs.2; omega)
  rw [chk_s0, if_pos rfl, txt_s0] at h13
  obtain ⟨q, hq1, hq2, h15⟩ : ∃ r : RecV, chkV r = 0 ∧ textB r = exS ∧ cpJ PR n 15 [.str exS] = some (.tup [r.d, .int .i64 0]) := by
    rcases e15 (n := n) (by omega) exS (by decide) with h | ⟨h, -⟩
    · exact h
    · exact absurd txt_s0 (h s0 chk_s0)
  have ok := chk_ok hq1
  have h16 := e16one (n := n) q s0 (by have := ok.few; omega) (by omega)
  rw [eq_parse hq1 hq2] at h16
  have sl1 := RecV_slice (cpJ PR n) q
  have sl2 := RecV_slice (cpJ PR n) s0
  -- logs
  obtain ⟨-, σ1, b1, g1, -⟩ | ⟨bad, -⟩ := e19 (n := n) (by omega) emptySto 2 2 10
  rotate_left
  · exact absurd bad (by decide)
  obtain ⟨bad, -⟩ | ⟨-, σ2, b2, k2⟩ := e19 (n := n) (by omega) σ1 0 2 10
  · exact absurd bad (by decide)
  obtain ⟨bad, -⟩ | ⟨-, σ3, b3, k3⟩ := e19 (n := n) (by omega) σ2 2 0 10
  · exact absurd bad (by decide)
  have b1 : ciJ PR n 19 [.int .i64 2, .int .i64 2, .int .i64 10] emptySto = some (.obj 2 0, σ1) := b1
  have g1 : LogS σ1 2 1 0 .nils M0 := ⟨_, g1, .refl _⟩
  have noA : ∀ i, arr .nils i → ¬ (fun _ : Nat => False) i := fun i _ h => h
  have g3 : LogS σ3 2 1 0 .nils M0 := (g1.keep k2 (fun h => h) (fun h => h) (fun h => h) noA).keep k3 (fun h => h) (fun h => h) (fun h => h) noA
  -- records
  have f1 : Fit r1 := ⟨hfs.1.src, hfs.1.tgt, hfs.1.cls, hfs.1.perms, hfs.1.small⟩
  have st1 : stepsR r1 ≤ 2000 := hfs.2
  obtain ⟨σ4, vv4, c4, g4, -⟩ := e23s g3 (n := n) (by omega) r1 f1 (by omega) room0
  rw [m1] at c4 g4
  obtain ⟨σ5, vv5, c5, g5, -⟩ := e23s g4 (n := n) (by omega) r1 f1 (by omega) room1
  rw [m2] at c5 g5
  obtain ⟨σ6, vv6, c6, g6, -⟩ := e23s g5 (n := n) (by omega) r1 f1 (by omega) room2
  rw [m3] at c6 g6
  obtain ⟨w7, σ7, l7, c7, -, o7, p7, g7⟩ := e27s g6 (n := n) (by omega) room3
  obtain ⟨y, rfl, hy⟩ := one_of (x := { r1 with count := 2 }) p7
  have yc : y.count = 2 := count_eq hy
  have len7 := own_len o7
  have idx7 := own_idx o7 (i := 0) (r := y.row) rfl
  have f2 : Fit r2 := ⟨hfs.1.src, hfs.1.tgt, hfs.1.cls, hfs.1.perms, hfs.1.small⟩
  have st2 : stepsR r2 ≤ 2000 := hfs.2
  obtain ⟨σ8, vv8, c8, g8, -⟩ := e23s g7 (n := n) (by omega) r2 f2 (by omega) room3
  rw [m4] at c8 g8
  have h26b := e26 (n := n) (by omega) [98]
  have h26c := e26 (n := n) (by omega) [99]
  have fb : Fit sb ∧ stepsR sb ≤ 2000 := fit_s [98] (by decide)
  have fc : Fit sc ∧ stepsR sc ≤ 2000 := fit_s [99] (by decide)
  obtain ⟨σ9, vv9, c9, g9, -⟩ := e23s g8 (n := n) (by omega) sb fb.1 (by have := fb.2; omega) room4
  rw [m5] at c9 g9
  obtain ⟨σ10, vv10, c10, g10, -⟩ := e23s g9 (n := n) (by omega) sc fc.1 (by have := fc.2; omega) room5
  rw [m6] at c10 g10
  have c11 := e28s g10 (n := n) (by omega)
  obtain ⟨w12, σ12, l12, c12, -, o12, p12, -⟩ := e27s g10 (n := n) (by omega) room6
  obtain ⟨x1, x2, rfl, hx1, hx2⟩ := two_of (x := sb) (x' := sc) p12
  have t1 : x1.tgt = [98] := by
    have := congrArg RecV.tgt hx1
    exact this
  have t2 : x2.tgt = [99] := by
    have := congrArg RecV.tgt hx2
    exact this
  have len12 := own_len o12
  have idx12 := own_idx o12 (i := 0) (r := x1.row) rfl
  have idx13 := own_idx o12 (i := 1) (r := x2.row) rfl
  rw [u8, d8x]
  exact awake_run h26 h13 h15 sl1 sl2 h16 b1 b2 b3 (RecV_set_time s0 0) (RecV_set_count { s0 with time := 0 } 1) (RecV_set_time r1 10) c4 c5 c6 c7 (own_okVal o7) len7 idx7 yc c8 h26b c9 h26c c10 c11 c12 len12 idx12 idx13 t1 t2
end Go.Proofs.YtagkgekpfgepoaaGreatDoor
namespace Go.Proofs.YtagkgekpfgepoaaGreatDoor
set_option linter.unusedVariables false
set_option linter.unusedSimpArgs false
set_option maxRecDepth 20000
set_option maxHeartbeats 4000000
open Go
theorem small_fit {r : RecV} (h : SmallR r) : Fit r ∧ stepsR r ≤ 20000 := by
  obtain ⟨h1, h2, h3, h4, h5⟩ := h
  have hs := sum_le h5
  have hm : r.perms.l.length * 300 ≤ 40 * 300 := Nat.mul_le_mul_right _ h4
  refine ⟨⟨by omega, by omega, by omega, fun s hs => by have := h5 s hs; omega, by omega⟩, ?_⟩
  unfold stepsR
  omega
theorem e3 {n : Nat} (hn : 1000000000010 ≤ n) (a b : RecV) : cpJ PR n 3 [a.d, b.d] = some (.bool true) := by
  obtain ⟨n, rfl⟩ : ∃ m, n = m + 1 := ⟨n - 1, by omega⟩
  have h8 := e8 (n := n) (by omega)
  have ha := e7 (n := n) (by omega) a
  have hb := e7 (n := n) (by omega) b
  rw [u3]
  cases sa : smallV a with
  | false =>
    rw [sa] at ha
    simp -implicitDefEqProofs [D3, ha, h8, -jwrSem.eq_1, -fldSem.eq_1]
  | true =>
    rw [sa] at ha
    cases sb : smallV b with
    | false =>
      rw [sb] at hb
      simp -implicitDefEqProofs [D3, ha, hb, h8, -jwrSem.eq_1, -fldSem.eq_1]
    | true =>
      rw [sb] at hb
      have sma := small_of sa
      obtain ⟨f1, f2⟩ := small_fit sma
      have h9 := e9 (n := n) a f1 (by omega)
      have h10 := e10 (n := n) a f1 (by omega)
      have hl : a.perms.l.length ≤ 40 := sma.few
      have h11 := e11 (n := n) a b (by omega) (by omega)
      have h12 := e12 (n := n) a b (by omega) (by omega)
      have h11s := e11 (n := n) a a (by omega) (by omega)
      rw [same_self] at h11s
      generalize chkV a = c at *
      generalize sameV a b = q at *
      simp -implicitDefEqProofs [D3, ha, hb, h8, h9, h10, h11, h12, h11s, -jwrSem.eq_1, -fldSem.eq_1]
theorem e4 {n : Nat} (hn : 1000000000010 ≤ n) (r : RecV) : cpJ PR n 4 [r.d] = some (.bool true) := by
  obtain ⟨n, rfl⟩ : ∃ m, n = m + 1 := ⟨n - 1, by omega⟩
  have h8 := e8 (n := n) (by omega)
  have ha := e7 (n := n) (by omega) r
  rw [u4]
  cases sa : smallV r with
  | false =>
    rw [sa] at ha
    simp -implicitDefEqProofs [D4, ha, h8, -jwrSem.eq_1, -fldSem.eq_1]
  | true =>
    rw [sa] at ha
    obtain ⟨f1, f2⟩ := small_fit (small_of sa)
    have h13 := e13 (n := n) r f1 (by omega)
    have h14 := e14 (n := n) r f1 (by omega)
    by_cases hc : chkV r = 0
    · rw [hc, if_pos rfl] at h13 h14
      have ok := chk_ok hc
      have hl := (text_len ok).1
      obtain ⟨q, hq1, hq2, h15⟩ : ∃ q : RecV, chkV q = 0 ∧ textB q = textB r ∧ cpJ PR n 15 [.str (textB r)] = some (.tup [q.d, .int .i64 0]) := by
        rcases e15 (n := n) (by omega) (textB r) hl with h | ⟨h, -⟩
        · exact h
        · exact absurd rfl (h r hc)
      have okq := chk_ok hq1
      have heq : eqR q r = true := strip_eq_iff.1 (text_inj hq1 hc hq2)
      have h16 := e16one (n := n) q r (by have := okq.few; omega) (by omega)
      rw [heq] at h16
      have sl1 := RecV_slice (cpJ PR n) q
      have sl2 := RecV_slice (cpJ PR n) r
      generalize textB r = T at *
      simp -implicitDefEqProofs [D4, ha, h8, h13, h14, h15, h16, sl1, sl2, -jwrSem.eq_1, -fldSem.eq_1]
    · rw [if_neg hc] at h13 h14
      have hcb : (chkV r == 0) = false := beq_eq_false_iff_ne.2 hc
      have hcn : (chkV r != 0) = true := bne_iff_ne.2 hc
      generalize chkV r = c at *
      simp -implicitDefEqProofs [D4, ha, h8, h13, h14, hc, hcb, hcn, -jwrSem.eq_1, -fldSem.eq_1]
theorem e5 {n : Nat} (hn : 1000000000010 ≤ n) (s : Bs) : cpJ PR n 5 [.str s] = some (.bool true) := by
  obtain ⟨n, rfl⟩ : ∃ m, n = m + 1 := ⟨n - 1, by omega⟩
  have h8 := e8 (n := n) (by omega)
  rw [u5]
  by_cases hs : s.length ≤ 3000
  · have hsI : ¬ ((3000 : Int) < s.length) := by omega
    rcases e15 (n := n) (by omega) s (by omega) with ⟨r, r1, r2, h15⟩ | ⟨no, h15⟩
    · rcases e17 (n := n) (by omega) s (by omega) with ⟨q, q1, q2, h17⟩ | ⟨no, h17⟩
      · have okr := chk_ok r1
        have heq : eqR r q = true := strip_eq_iff.1 (text_inj r1 q1 (by rw [r2, q2]))
        have h16 := e16one (n := n) r q (by have := okr.few; omega) (by omega)
        rw [heq] at h16
        have sl1 := RecV_slice (cpJ PR n) r
        have sl2 := RecV_slice (cpJ PR n) q
        obtain ⟨w1, -⟩ := parts_len 32 s
        have hsrc := okr.src
        have htgt := okr.tgt
        simp only [prnB, Bool.and_eq_true, decide_eq_true_eq] at hsrc htgt
        have hcl := (name_len (ident_name okr.cls)).2
        have hpl : ∀ p ∈ r.perms.l, p.length ≤ 32 := fun p hp => (name_len (ident_name (perms_ok okr.perms p hp))).2
        have hsum := sum_le hpl
        have few := okr.few
        have h13 := e13 (n := n) r ⟨by omega, by omega, by omega, fun p hp => by have := hpl p hp; omega, by omega⟩ (by unfold stepsR; omega)
        rw [r1, if_pos rfl, r2] at h13
        simp -implicitDefEqProofs [D5, hsI, h8, h15, h17, h13, h16, sl1, sl2, -jwrSem.eq_1, -fldSem.eq_1]
      · exact absurd r2 (no r r1)
    · rcases e17 (n := n) (by omega) s (by omega) with ⟨q, q1, q2, h17⟩ | ⟨no', h17⟩
      · exact absurd q2 (no q q1)
      · have h16 := e16one (n := n) zeroR zeroR (by simp [zeroR]) (by omega)
        have heq : eqR zeroR zeroR = true := by decide
        rw [heq] at h16
        have sl1 := RecV_slice (cpJ PR n) zeroR
        generalize zeroR = Z at *
        simp -implicitDefEqProofs [D5, hsI, h8, h15, h17, h16, sl1, -jwrSem.eq_1, -fldSem.eq_1]
  · have hsI : ((3000 : Int) < s.length) := by omega
    simp -implicitDefEqProofs [D5, hsI, h8]
end Go.Proofs.YtagkgekpfgepoaaGreatDoor
