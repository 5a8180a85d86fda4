/- Texts of this proof, part 8: see the card for what is proved. -/
import Derived.Test.YtdibpeknpmhknaaGreatSq07
import Derived.KernelRfl
import Derived.Test.YtdibpeknpmhknaaGreatSq06
set_option linter.unusedVariables false
set_option linter.unusedSimpArgs false
set_option maxRecDepth 100000
set_option maxHeartbeats 8000000
namespace Go.Proofs.YtdibpeknpmhknaaGreat
open Go
theorem G3 : Zg QR where
 types := ⟨by decide, by decide, by simp⟩
 roles := ⟨rfl, by decide, by decide⟩
 users := ⟨by decide, by decide, by simp⟩
 cats := ⟨⟨by decide, by decide, by simp⟩, ⟨by decide, by decide, by simp⟩⟩
 small := ⟨by decide, by decide, by decide, by decide, by decide, by decide, by decide, by decide, by decide, by decide, by decide, by decide, by decide, by decide, by decide, by decide, by decide, by decide⟩
def roleO : QQ := ⟨[111, 98, 106, 101, 99, 116, 95, 114], We 0, We 0⟩
def roleS (w : Nat) (h : w < 18446744073709551616 := by decide) : QQ := ⟨[115, 121, 115, 116, 101, 109], We w h, We 0⟩
def U4 : Qw := { QR with roles := ⟨.full, [roleO, roleS 1]⟩ }
theorem other_good : Zg U4 where
 types := ⟨by decide, by decide, by simp⟩
 roles := ⟨rfl, by decide, by decide⟩
 users := ⟨by decide, by decide, by simp⟩
 cats := ⟨⟨by decide, by decide, by simp⟩, ⟨by decide, by decide, by simp⟩⟩
 small := ⟨by decide, by decide, by decide, by decide, by decide, by decide, by decide, by decide, by decide, by decide, by decide, by decide, by decide, by decide, by decide, by decide, by decide, by decide⟩
def userC : Q3 := ⟨0, 1, 1, lv0, lv0⟩
theorem e26 {n : Nat} (hn : 1 ≤ n) : cpJ PR n 26 [] = some userC.d := by
 obtain ⟨n, rfl⟩ : ∃ m, n = m + 1 := ⟨n - 1, by omega⟩
 rw [u26]
 simp -implicitDefEqProofs [D26]
 rfl
def am1 : List Q1 := (YL QR (Zf QR) userC).1
def am2 : List Q1 := (YL QR am1 J5).1
def am3 : List Q1 := (ZY U4 am2).1
def am4 : List Q1 := (ZY QR am3).1
theorem al_right : ZP QR = true := by kernel_rfl
theorem al_1 : (YL QR (Zf QR) userC).2 = (4, 0) := by kernel_rfl
theorem al_2 : (YL QR am1 J5).2 = (2, 0) := by kernel_rfl
theorem al_3 : (ZY U4 am2).2 = (1, 0) := by kernel_rfl
theorem al_4 : (ZY QR am3).2 = (0, 0) := by kernel_rfl
theorem al_l2 : am2.length = 4 := by kernel_rfl
theorem al_l3 : am3.length = 4 := by kernel_rfl
theorem al_l4 : am4.length = 4 := by kernel_rfl
theorem al_text : (am3[3]?.map λq=> YK q.home q.at_) = some [114, 111, 111, 116, 58, 115, 121, 115, 116, 101, 109, 58, 117, 115, 101, 114, 95, 116, 58, 115, 48] := by kernel_rfl
theorem al_map : (am3[3]?.map λq=> q.mapped) = some false := by kernel_rfl
theorem al_name : (am3[1]?.map λq=> q.name) = some [114, 111, 111, 116] := by kernel_rfl
theorem al_back : (am4[3]?.map λq=> q.mapped) = some true := by kernel_rfl
theorem wr_pol (p : Qw) : Qh 0 17 [.agg [.nils, .nils, .nils, .nils, .nils, .nils, .nils, .nils, .nils, .nils, .nils, .nils, .nils, .nils, .nils, .nils, .nils], p.d] = some p.d := by
 simp [Qh, Qw.d, Qw.row, QX, Qa.cells]
theorem wr_roles (p : Qw) (sz id off len : Nat) (cap : Option Nat) : Qh 3 1 [p.d, .mslice sz id off len cap] = some (pdR p (.mslice sz id off len cap)) := by
 simp [Qh, Qw.d, Qw.row, pdR, QX, Qa.cells, Qa.okCell]
def WQ : List Qa := roleO.row ++ (roleS 3).row
def HB : List Qa := roleO.row ++ (roleS 1).row
theorem app_roles (σ : Sto) : VZ 9 σ [.slice false 1 9 [], QJ 9 QQ.row QR.roles] = some (.mslice 9 σ.nobj 0 2 none, σ.new (.agg WQ)) := by
 have e1 : Ye σ (QJ 9 QQ.row QR.roles) = some (false, QR.roles.l.map QQ.row) := Gq W9
 have e2 : (QJ 9 QQ.row QR.roles).szOk 9 = true := V6
 have e4 : QR.roles.l.map QQ.row = [roleO.row, (roleS 3).row] := rfl
 rw [e4] at e1
 simp [VZ, e1, e2, GZ, QS, Sto.new, WQ]
theorem snap_roles {σ : Sto} {a : Nat} (ha : a < σ.nobj) (ho : σ.obj a = .agg HB) : Rol σ (.mslice 9 a 0 2 none) U4 := by
 refine ⟨?_, rfl, rfl⟩
 simp only [Qa.snapCell, Ur, ha, if_true, ho, List.drop_zero]
 rfl
theorem e9 {n : Nat} (hn : 1200000 ≤ n) : cpJ PR (n + 1) 9 [] = some (.bool true) := by
 have h1 := e25 (n := n) (by omega)
 have h2 := e26 (n := n) (by omega)
 have h3 := e27 (n := n) (by omega)
 have a := e10 (n := n) (by omega) Qd G3
 rw [if_pos al_right] at a
 obtain ⟨σ1, id, T1, a1, a2, a3, -, -⟩ := a
 have fl : (Zf QR).length = 3 := by kernel_rfl
 have r1 := both_rows' a2
 obtain ⟨σ2, T2, b1, b2, -, b4⟩ := JO (n := n) (by omega) a2 (by omega) userC
 rw [al_1] at b1
 obtain ⟨σ3, T3, c1, c2, -, -⟩ := JO (n := n) (by omega) b2 (by omega) J5
 change ciJ PR n 16 _ _ = some (.tup [.int .i64 (YL QR am1 J5).2.1, .int .i64 (YL QR am1 J5).2.2], σ3) at c1
 change ZC σ3 id QR T3 am2 at c2
 rw [al_2] at c1
 have d1 := app_roles σ3
 have d2 := wr_roles QR 9 σ3.nobj 0 2 none
 have d3 : Xr (σ3.new (.agg WQ)) 4 [.obj σ3.nobj 10, .agg [.int .u64 1, .int .u64 0, .int .u64 0, .int .u64 0]] = some (.undef, (σ3.new (.agg WQ)).put σ3.nobj (.agg HB)) := by
  rw [st_obj (k := 4) (cs := WQ) Sto.new_obj (by simp) rfl rfl]
  rfl
 have nw : New σ3 ((σ3.new (.agg WQ)).put σ3.nobj (.agg HB)) := by
  have k := New.of σ3 (.agg WQ)
  exact ⟨by rw [Sto.put_nobj]; exact k.nobj, fun j hj => by rw [Sto.put_obj_ne (by omega)]; exact k.obj j hj, by rw [Sto.put_ntok]; exact k.ntok, fun g hg => by rw [Sto.put_fr]; exact k.fr g hg⟩
 have hrol : Rol ((σ3.new (.agg WQ)).put σ3.nobj (.agg HB)) (.mslice 9 σ3.nobj 0 2 none) U4 := snap_roles (by simp) Sto.put_obj
 have c3 := c2.new nw
 have epd : pdR QR (.mslice 9 σ3.nobj 0 2 none) = pdR U4 (.mslice 9 σ3.nobj 0 2 none) := rfl
 generalize (σ3.new (.agg WQ)).put σ3.nobj (.agg HB) = σ4 at *
 obtain ⟨σ5, id2, f1, -, f3⟩ := e14 (n := n) (by omega) c3 (by rw [al_l2]; decide) other_good hrol (pol_box' QR)
 rw [al_3] at f1 f3
 obtain ⟨T5, f3, -⟩ := f3 rfl
 change ZC σ5 id2 U4 T5 am3 at f3
 have l3 := al_l3
 obtain ⟨q3, hq3⟩ := Qz (by omega : 3 < am3.length)
 obtain ⟨q1, hq1⟩ := Qz (by omega : 1 < am3.length)
 have i3 : Yd am3 4 = some q3 := XR rfl hq3
 have i1 : Yd am3 2 = some q1 := XR rfl hq1
 have t3 := al_text
 have m3 := al_map
 have n1 := al_name
 rw [hq3, Option.map_some, Option.some.injEq] at t3 m3
 rw [hq1, Option.map_some, Option.some.injEq] at n1
 have g1 := both_text (n := n) (by omega) f3 (by omega) i3
 have g2 := both_name (n := n) (by omega) f3 (by omega) i1
 have box2 : Qm [pdR QR (.mslice 9 σ3.nobj 0 2 none)] = some (pdR QR (.mslice 9 σ3.nobj 0 2 none)) := JP rfl
 have ov2 : (pdR QR (.mslice 9 σ3.nobj 0 2 none)).okVal = true := Ug rfl
 obtain ⟨σ6, id3, k1, k2, k3⟩ := e14 (n := n) (by omega) f3 (by omega) G3 (Rol.plain σ5 QR) box2
 rw [al_4] at k1 k3
 obtain ⟨T6, k3, -⟩ := k3 rfl
 change ZC σ6 id3 QR T6 am4 at k3
 have l4 := al_l4
 obtain ⟨q4, hq4⟩ := Qz (by omega : 3 < am4.length)
 have i4 : Yd am4 4 = some q4 := XR rfl hq4
 have m4 := al_back
 rw [hq4, Option.map_some, Option.some.injEq] at m4
 have g3 := Vs (n := n) (by omega) (f3.new k2) (by omega) i3
 have g4 := Vs (n := n) (by omega) k3 (by omega) i4
 rw [t3] at g1
 rw [n1] at g2
 rw [m3] at g3
 rw [m4] at g4
 rw [← epd] at f1
 rw [← pdR_plain] at k1
 have j1 := wr_pol QR
 have hs0 : POp.sem (cpJ PR n) [] (.bslice false 9) = some (.slice false 1 9 []) := rfl
 have hb0 : POp.sem (cpJ PR n) [.int .u64 1] (.build [(.int .u64 0), (.int .u64 0), (.int .u64 0), (.int .u64 0)] [(0, 1)]) = some (.agg [.int .u64 1, .int .u64 0, .int .u64 0, .int .u64 0]) := rfl
 have o1 : QR.d.okVal = true := okVal_pol
 have hrol := fld_roles (p := QR)
 simp only [if_true] at f1 k1
 generalize QJ 9 QQ.row QR.roles = rv at *
 generalize userC = c1' at *
 generalize J5 = c2' at *
 have p1 := pdR_whole (p := QR) (rv := .mslice 9 σ3.nobj 0 2 none)
 have p2 := pdR_roles (p := QR) (rv := .mslice 9 σ3.nobj 0 2 none)
 generalize pdR QR (.mslice 9 σ3.nobj 0 2 none) = pm at *
 have w1 : Qb 0 (some 17) [QR.d] = some QR.d := rfl
 have w2 : QR.d.stale = QR.d := rfl
 generalize QR.d = P at *
 rw [u9]
 simp -implicitDefEqProofs [D9, h1, j1, w1, w2, a1, h2, b1, h3, c1, hs0, hrol, d1, d2, p1, p2, hb0, d3, o1, ov2, f1, g1, g2, k1, g3, g4, -Qh.eq_1, -POp.sem.eq_17, -POp.sem.eq_18]
theorem alive_true {n : Nat} (hn : 1200001 ≤ n) : cpJ PR n 9 [] = some (.bool true) := by
 obtain ⟨n, rfl⟩ : ∃ m, n = m + 1 := ⟨n - 1, by omega⟩
 exact e9 (by omega)
end Go.Proofs.YtdibpeknpmhknaaGreat
namespace Go.Proofs.YtdibpeknpmhknaaGreat
open Go
theorem e3 {n d : Nat} (hn : maxLen + 2000 + d ≤ n) (aw : cpJ PR n 9 [] = some (.bool true)) {p : Qw} (hf : XN d p) (l : Sl Q3) :
  cpJ PR (n + 1) 3 [p.d, QJ 7 Q3.row l] = some (.bool true) := by
 obtain ⟨b, h1, hb⟩ := e8 hn hf
 have hn' : 1000000 ≤ n := by unfold maxLen at hn; omega
 rw [u3]
 cases b with
 | false => simp -implicitDefEqProofs [D3, h1, aw]
 | true =>
 have g := hb rfl
 by_cases h40 : 40 < l.l.length
 ·have h40' : (40 : Int) < l.l.length := by omega
  simp -implicitDefEqProofs [D3, h1, aw, h40']
 have h40' : ¬ (40 : Int) < l.l.length := by omega
 have hs := g.small.sids
 have hw : ∀ (q : Qw) (t : Sl Q1), Qh 0 18 [zst, rD q t] = some (rD q t) := fun q t => V5 rfl
 have hw2 : ∀ (t u : Sl Q1), Qh 0 18 [rD p u, rD p t] = some (rD p t) := fun t u => V5 rfl
 have h2 := e10 (n := n) (by omega) Qd g
 have h3 := e11 (n := n) (by omega) (p := p) (by omega)
 cases hr : ZP p with
 | false =>
  rw [hr] at h2 h3
  simp only [Bool.false_eq_true, if_false] at h2 h3
  simp -implicitDefEqProofs [D3, h1, aw, h40', h2, h3, hw, -Qh.eq_1]
 | true =>
  rw [hr] at h2 h3
  simp only [if_true] at h2 h3
  obtain ⟨σ1, id, T, a1, a2, a3, -, -⟩ := h2
  obtain ⟨z, h3⟩ := h3
  obtain ⟨z2, σ2, T2, c1, c2, -, c4⟩ := e12 (n := n) (by omega) (s := ⟨z, Zf p⟩) a2 l (by omega)
  have h4 := e13 (n := n) (by omega) (s := ⟨z2, X2 p (Zf p) l.l⟩) c2 (by omega)
  simp -implicitDefEqProofs [D3, h1, aw, h40', a1, h3, hw, hw2, c1, h4, -Qh.eq_1]
end Go.Proofs.YtdibpeknpmhknaaGreat
namespace Go.Proofs.YtdibpeknpmhknaaGreat
open Go
theorem e6 {n d : Nat} (hn : maxLen + 2000 + d ≤ n) (aw : cpJ PR n 9 [] = some (.bool true)) {p : Qw} (hf : XN d p) (l more : Sl Q3) :
  cpJ PR (n + 1) 6 [p.d, QJ 7 Q3.row l, QJ 7 Q3.row more] = some (.bool true) := by
 obtain ⟨b, h1, hb⟩ := e8 hn hf
 have hn' : 1000000 ≤ n := by unfold maxLen at hn; omega
 rw [u6]
 cases b with
 | false => simp -implicitDefEqProofs [D6, h1, aw]
 | true =>
 have g := hb rfl
 by_cases h40 : 40 < l.l.length
 ·have h40' : (40 : Int) < l.l.length := by omega
  simp -implicitDefEqProofs [D6, h1, aw, h40']
 have h40' : ¬ (40 : Int) < l.l.length := by omega
 by_cases m40 : 40 < more.l.length
 ·have m40' : (40 : Int) < more.l.length := by omega
  simp -implicitDefEqProofs [D6, h1, aw, h40', m40']
 have m40' : ¬ (40 : Int) < more.l.length := by omega
 have hs := g.small.sids
 have hw : ∀ (q : Qw) (t : Sl Q1), Qh 0 18 [zst, rD q t] = some (rD q t) := fun q t => V5 rfl
 have hw2 : ∀ (t u : Sl Q1), Qh 0 18 [rD p u, rD p t] = some (rD p t) := fun t u => V5 rfl
 have h2 := e10 (n := n) (by omega) Qd g
 have h3 := e11 (n := n) (by omega) (p := p) (by omega)
 cases hr : ZP p with
 | false =>
  rw [hr] at h2 h3
  simp only [Bool.false_eq_true, if_false] at h2 h3
  simp -implicitDefEqProofs [D6, h1, aw, h40', m40', h2, h3, hw, -Qh.eq_1]
 | true =>
  rw [hr] at h2 h3
  simp only [if_true] at h2 h3
  obtain ⟨σ1, id, T, a1, a2, a3, -, -⟩ := h2
  obtain ⟨z, h3⟩ := h3
  obtain ⟨z2, σ2, T2, c1, c2, -, c4⟩ := e12 (n := n) (by omega) (s := ⟨z, Zf p⟩) a2 l (by omega)
  dsimp only at c1 c2
  obtain ⟨σ3, id2, T3, d1, d2, d3, d4, d5, d6, d7⟩ := e20 (n := n) (by omega) c2 (by omega)
  -- the table, with a token that the copy does not hold
  obtain ⟨U, k1, k2, k3, k4, k5⟩ : ∃ U : ZW, ZC σ3 id p U (X2 p (Zf p) l.l) ∧ U.rows = T2.rows ∧ U.pid = T2.pid ∧ U.mid = T2.mid ∧ T3.t ≠ U.t := by
   obtain ⟨K, ht, -, -⟩ := c2.ex
   have hb := d7.t
   rcases ht.tl with q | q
   ·exact ⟨T2, d2, rfl, rfl, rfl, by omega⟩
   ·exact ⟨{ T2 with t := T3.t + 1 }, d2.token q (T3.t + 1), rfl, rfl, rfl, by show T3.t ≠ T3.t + 1; omega⟩
  obtain ⟨z3, σ4, U2, f1, f2, f3, f4⟩ := e12 (n := n) (by omega) (s := ⟨z2, X2 p (Zf p) l.l⟩) k1 more (by rw [k2]; omega)
  dsimp only at f1 f2
  have hc : ZC σ4 id2 p T3 (X2 p (Zf p) l.l) := by
   obtain ⟨K, ht, -, -⟩ := c2.ex
   have x1 := ht.idl
   have x2 := ht.midl
   have x3 := d7.id
   have x4 := d7.mid
   refine d3.apart f3 ⟨by omega, by rw [k4]; omega, by omega, by rw [k4]; omega, by rw [d5]; exact ht.pne.1, by rw [d5, k4]; exact ht.pne.2⟩ (.inl k5) fun r hr => ?_
   rw [d4] at hr
   rw [k4]
   exact (ht.homes r hr).2
  have h4 := e13 (n := n) (by omega) (s := ⟨z2, X2 p (Zf p) l.l⟩) hc (by rw [d4]; omega)
  have h5 := e13 (n := n) (by omega) (s := ⟨z3, X2 p (X2 p (Zf p) l.l) more.l⟩) f2 (by rw [k2] at f4; omega)
  simp -implicitDefEqProofs [D6, h1, aw, h40', m40', a1, h3, hw, hw2, c1, d1, f1, h4, h5, -Qh.eq_1]
def Hw (A B : Qw) (L M : Sl Q3) : Qa := .agg (A.row ++ (B.row ++ [QJ 7 Q3.row L, QJ 7 Q3.row M]))
section
variable {A B : Qw} {L M : Sl Q3}
@[simp high] theorem case_a : Qb 0 (some 17) [Hw A B L M] = some A.d := rfl
@[simp high] theorem case_b : Qb 17 (some 17) [Hw A B L M] = some B.d := rfl
@[simp high] theorem case_l : Qb 34 none [Hw A B L M] = some (QJ 7 Q3.row L) := rfl
@[simp high] theorem case_m : Qb 35 none [Hw A B L M] = some (QJ 7 Q3.row M) := rfl
@[simp high] theorem case_box : Qm [Hw A B L M] = some (Hw A B L M) := by
 show (if (A.row ++ (B.row ++ [QJ 7 Q3.row L, QJ 7 Q3.row M])).all Qa.okCell then _ else _) = _
 rw [if_pos (by simp [Qw.row])]
 rfl
end
theorem pol_box (p : Qw) : Qm [p.d] = some p.d := by
 show (if p.row.all Qa.okCell then _ else _) = _
 rw [if_pos (by simp [Qw.row])]
 rfl
theorem convM_len (b : Qw) (m : List Q1) : (ZY b m).1.length ≤ m.length + b.sids.l.length := by
 unfold ZY
 split
 ·split
  ·simp
  ·have := newR_len b m b.sids.l
   simp only [Yb, List.length_append, List.length_map]
   omega
 ·simp
theorem Gh {n : Nat} (hn : 120000 ≤ n) {σ : Sto} {id : Nat} {a b : Qw} {T : ZW} {s : Sl Q1} (hB : ZC σ id a T s.l) (hl : s.l.length ≤ 5000) (gb : Zg b) :
  ∃ σ' id2 v, ciJ PR n 14 [.obj id 0, a.d, b.d] σ = some (.tup [(if (ZY b s.l).2.2 = 0 then .obj id2 0 else .nilp), .int .i64 (ZY b s.l).2.1, .int .i64 (ZY b s.l).2.2], σ') ∧
   cpJ PR n 15 [rD a s, a.d, b.d] = some (.tup [v, .int .i64 (ZY b s.l).2.1, .int .i64 (ZY b s.l).2.2]) ∧ New σ σ' ∧ ZC σ' id a T s.l ∧
   (if (ZY b s.l).2.2 = 0 then ∃ z T2, v = rD b ⟨z, (ZY b s.l).1⟩ ∧ ZC σ' id2 b T2 (ZY b s.l).1 else v = zst) := by
 obtain ⟨n, rfl⟩ : ∃ m, n = m + 1 := ⟨n - 1, by omega⟩
 have hs := gb.small.sids
 obtain ⟨σ', id2, h1, h2, h3⟩ := e14 (n := n + 1) (by omega) hB hl gb (Rol.plain σ b) (pol_box a)
 obtain ⟨v, h4, h5⟩ := e15 (p := a) (n := n) (by omega) hl (by omega) hB.rel.good gb a
 refine ⟨σ', id2, v, h1, h4, h2, hB.new h2, ?_⟩
 split
 ·rename_i he
  rw [if_pos he] at h5
  obtain ⟨z, hz⟩ := h5
  obtain ⟨T2, t1, -⟩ := h3 he
  exact ⟨z, T2, hz, t1⟩
 ·rename_i he
  rw [if_neg he] at h5
  exact h5
theorem WC {σ : Sto} {id : Nat} {p : Qw} {T : ZW} {m : List Q1} (h : ZC σ id p T m) : T.rows.length = m.length := h.rel.length
theorem e4 {n d : Nat} (hn : maxLen + 2000 + d ≤ n) (aw : cpJ PR n 9 [] = some (.bool true)) {A B : Qw} (hA : XN d A) (hBf : XN d B) (L M : Sl Q3) :
  cpJ PR (n + 1) 4 [Hw A B L M] = some (.bool true) := by
 obtain ⟨b1, h1, hb1⟩ := e8 hn hA
 obtain ⟨b2, h1', hb2⟩ := e8 hn hBf
 have hn' : 1000000 ≤ n := by unfold maxLen at hn; omega
 rw [u4]
 cases b1 with
 | false => simp -implicitDefEqProofs [D4, h1, aw]
 | true =>
 cases b2 with
 | false => simp -implicitDefEqProofs [D4, h1, h1', aw]
 | true =>
 have ga := hb1 rfl
 have gb := hb2 rfl
 by_cases l20 : 20 < L.l.length
 ·have l20' : (20 : Int) < L.l.length := by omega
  simp -implicitDefEqProofs [D4, h1, h1', aw, l20']
 have l20' : ¬ (20 : Int) < L.l.length := by omega
 by_cases m20 : 20 < M.l.length
 ·have m20' : (20 : Int) < M.l.length := by omega
  simp -implicitDefEqProofs [D4, h1, h1', aw, l20', m20']
 have m20' : ¬ (20 : Int) < M.l.length := by omega
 have hs := ga.small.sids
 have hs2 := gb.small.sids
 have hw : ∀ (q : Qw) (t : Sl Q1), Qh 0 18 [zst, rD q t] = some (rD q t) := fun q t => V5 rfl
 have hw2 : ∀ (p : Qw) (t u : Sl Q1), Qh 0 18 [rD p u, rD p t] = some (rD p t) := fun p t u => V5 rfl
 have hz1 : Qh 0 18 [zst, zst] = some zst := rfl
 have h2 := e10 (n := n) (by omega) Qd ga
 have h3 := e11 (n := n) (by omega) (p := A) (by omega)
 cases hr : ZP A with
 | false =>
  rw [hr] at h2 h3
  simp only [Bool.false_eq_true, if_false] at h2 h3
  simp -implicitDefEqProofs [D4, h1, h1', aw, l20', m20', h2, h3, hw, -Qh.eq_1]
 | true =>
  rw [hr] at h2 h3
  simp only [if_true] at h2 h3
  obtain ⟨σ1, id, T, a1, a2, a3, -, -⟩ := h2
  obtain ⟨z, h3⟩ := h3
  obtain ⟨z2, σ2, T2, c1, c2, -, c4⟩ := e12 (n := n) (by omega) (s := ⟨z, Zf A⟩) a2 L (by omega)
  dsimp only at c1 c2
  have hr2 := WC c2
  obtain ⟨σ3, id2, v, d1, d2, d3, d4, d5⟩ := Gh (n := n) (by omega) (s := ⟨z2, X2 A (Zf A) L.l⟩) c2 (by show (X2 A (Zf A) L.l).length ≤ 5000; omega) gb
  have h4 := e13 (n := n) (by omega) (s := ⟨z2, X2 A (Zf A) L.l⟩) d4 (by omega)
  have hcl := convM_len B (X2 A (Zf A) L.l)
  simp only at d1 d2 d5
  generalize ZY B (X2 A (Zf A) L.l) = x at *
  obtain ⟨xm, xl, xe⟩ := x
  simp only at *
  by_cases he : xe = 0
  ·subst he
   simp only [if_true] at d1 d5
   obtain ⟨z3, T3, rfl, d5⟩ := d5
   have hr3 := WC d5
   obtain ⟨z4, σ4, T4, f1, f2, -, f4⟩ := e12 (n := n) (by omega) (s := ⟨z3, xm⟩) d5 M (by omega)
   dsimp only at f1 f2
   have h5 := e13 (n := n) (by omega) (s := ⟨z4, X2 B xm M.l⟩) f2 (by omega)
   have hr4 := WC f2
   obtain ⟨σ5, id3, w, g1, g2, -, -, g5⟩ := Gh (n := n) (by omega) (s := ⟨z4, X2 B xm M.l⟩) f2 (by show (X2 B xm M.l).length ≤ 5000; omega) ga
   have hcl2 := convM_len A (X2 B xm M.l)
   simp only at g1 g2 g5
   generalize ZY A (X2 B xm M.l) = y at *
   obtain ⟨ym, yl, ye⟩ := y
   simp only at *
   by_cases hy : ye = 0
   ·subst hy
    simp only [if_true] at g1 g5
    obtain ⟨z5, T5, rfl, g5⟩ := g5
    have hr5 := WC g5
    have h6 := e13 (n := n) (by omega) (s := ⟨z5, ym⟩) g5 (by omega)
    simp -implicitDefEqProofs [D4, h1, h1', aw, l20', m20', a1, h3, hw, hw2, c1, d1, d2, h4, f1, h5, g1, g2, h6, -Qh.eq_1]
   ·rw [if_neg hy] at g1 g5
    subst g5
    have hy' : (ye != 0) = true := by simpa using hy
    simp -implicitDefEqProofs [D4, h1, h1', aw, l20', m20', a1, h3, hw, hw2, hz1, c1, d1, d2, h4, f1, h5, g1, g2, hy', hy, -Qh.eq_1]
  ·rw [if_neg he] at d1 d5
   subst d5
   have he' : (xe != 0) = true := by simpa using he
   simp -implicitDefEqProofs [D4, h1, h1', aw, l20', m20', a1, h3, hw, hw2, hz1, c1, d1, d2, h4, he', he, -Qh.eq_1]
end Go.Proofs.YtdibpeknpmhknaaGreat
namespace Go.Proofs.YtdibpeknpmhknaaGreat
open Go
def UT (p : Qw) : Prop := (p.sids.l.map ZD.name).Nodup
theorem doneI_any {Q : Int → Prop} {o : Option Out} (h : Ans o (doneI any)) (hq : ∀ i, Q i) : Ans o (doneI Q) :=
 h.mono fun x hx => by
  cases x with
  | done v σ =>
   cases v with
   | int k i => cases k <;> first | exact hq i | exact hx
   | _ => exact hx
  | next i vs σ => exact hx
section
variable {n d : Nat} (hn : maxLen + 1200 + d ≤ n) {p : Qw} (hp : Zh p) (hf : XN d p)
include hn hp hf
theorem l58n : ∀ (k i m : Nat) (ns : List Bs) (v u : Qa) (σ : Sto), i + k = p.sids.l.length → k < m → ns = (p.sids.l.take i).map ZD.name → ns.Nodup → Own σ 1 v (YY ns) →
  Ans (Qv 0 (V3 (cpJ PR n) (ciJ PR n) n p.d) m [.int .i64 i, v, u] σ) (doneI λe=> e = 0 → UT p) := by
 intro k
 induction k with
 | zero =>
  intro i m ns v u σ hi hm hns hnd hv
  obtain ⟨m, rfl⟩ : ∃ j, m = j + 1 := ⟨m - 1, by omega⟩
  have hi' : ¬ ((i : Int) < p.sids.l.length) := by omega
  have hlen := hp.files
  rw [List.take_of_length_le (by omega)] at hns
  have h0 := doneI_any (Q := λe=> e = 0 → UT p) (l58_0 hn hp hf p.files.l.length 0 n u σ (by omega) (by omega)) (fun _ _ => by rw [UT, ← hns]; exact hnd)
  have h1 := Yt (l := 0) (f := V3 (cpJ PR n) (ciJ PR n) n p.d) (m := m) h0
  simp only [Int.natCast_zero] at h1
  refine Q2 ?_
  simp -implicitDefEqProofs [V3, En, hi', h1]
 | succ k ih =>
  intro i m ns v u σ hi hm hns hnd hv
  obtain ⟨m, rfl⟩ : ∃ j, m = j + 1 := ⟨m - 1, by omega⟩
  have hlen := hp.sids
  have hi' : ((i : Int) < p.sids.l.length) := by omega
  obtain ⟨x, hx⟩ := Qz (l := p.sids.l) (by omega : i < p.sids.l.length)
  have hwr := QT (by omega : i < p.sids.l.length) (by unfold maxLen; omega)
  obtain ⟨z, hz⟩ := X7 hv
  have hnl : ns.length = i := by rw [hns]; simp; omega
  obtain ⟨e, h1, he⟩ := nm1 (n := n) (by omega) x.name (hf.sids x (List.mem_of_getElem? hx)) z ns (by omega)
  obtain ⟨v', σ', h3, hv'⟩ := XD (own := 1) (r := [.str x.name]) hv (by rw [List.length_map]; omega)
  obtain ⟨b1, h2⟩ := e95 (n := n) (by omega) p x.ctx
  refine Q2 ?_
  by_cases e0 : e = 0
  ·have h4 := ih (i + 1) m (ns ++ [x.name]) v' u σ' (by omega) (by omega) (by rw [Zp hx, List.map_append, hns]; rfl) (by
    rw [List.nodup_append]
    exact ⟨hnd, by simp, fun a ha b hb e => (he e0).2 (by rw [List.mem_singleton] at hb; rw [← hb, ← e]; exact ha)⟩) (by simpa using hv')
   simp only [Int.natCast_add, Int.natCast_one] at h4
   subst e0
   by_cases b0 : b1 = 0
   ·subst b0
    simp -implicitDefEqProofs [V3, En, hi', hx, hwr, hz, h1, h2, h3, h4]
   ·have b0' : (b1 != 0) = true := by simpa using b0
    simp -implicitDefEqProofs [V3, En, hi', hx, hwr, hz, h1, h2, h3, b0, b0']
  ·have e0' : (e != 0) = true := by simpa using e0
   simp -implicitDefEqProofs [V3, En, hi', hx, hwr, hz, h1, e0, e0']
theorem e58n : ∃ i, cpJ PR (n + 1) 58 [p.d] = some (.int .i64 i) ∧ (i = 0 → UT p) := by
 have hlen := hp.sids
 obtain ⟨i, σ, h, hi⟩ := (l58n hn hp hf p.sids.l.length 0 n [] .nils (.int .i64 0) Qd (by omega) (by omega) rfl List.nodup_nil (X5 _ _)).doneI
 simp only [Int.natCast_zero] at h
 have : Ans (cpJ PR (n + 1) 58 [p.d]) (isI λi=> i = 0 → UT p) := by
  rw [u58]
  refine Zw ?_
  have : ¬ (1024 : Int) < p.sids.l.length := by omega
  simp -implicitDefEqProofs [D58, h, this]
  exact hi
 exact this.int
end
theorem e24n {n d : Nat} (hn : maxLen + 1400 + d ≤ n) {p : Qw} (hp : Zh p) (hf : XN d p) : ∃ i, cpJ PR n 24 [p.d] = some (.int .i64 i) ∧ (i = 0 → UT p) := by
 obtain ⟨n, rfl⟩ : ∃ m, n = m + 2 := ⟨n - 2, by omega⟩
 obtain ⟨i1, h1⟩ := e49 (n := n + 1) (by omega) hf hp
 obtain ⟨i2, h2, k2⟩ := e50 (n := n + 1) (by omega) hf hp
 obtain ⟨i3, h3, k3⟩ := e51 (n := n + 1) (by omega) hf hp
 obtain ⟨i4, h4, k4⟩ := e52 (n := n + 1) (by omega) hf hp
 obtain ⟨i5, h5, k5⟩ := e53 (n := n + 1) (by omega) hf hp
 obtain ⟨i6, h6⟩ := e54 (n := n) (d := d) (by omega) hp hf
 obtain ⟨i7, h7⟩ := e55 (n := n) (d := d) (by omega) hp hf
 obtain ⟨i8, h8⟩ := e56 (n := n) (d := d) (by omega) hp
 obtain ⟨i9, h9⟩ := e57 (n := n) (d := d) (by omega) hp hf
 obtain ⟨i10, h10, k10⟩ := e58n (n := n) (d := d) (by omega) hp hf
 obtain ⟨i11, h11⟩ := e59 (n := n) (d := d) (by omega) hp hf
 have f1 := e48 (n := n + 1) (by omega) [i1, i2, i3] (by simp)
 have f2 := e48 (n := n + 1) (by omega) [i4, i5, i6, i7, i8, i9, i10, i11] (by simp)
 simp only [List.map_cons, List.map_nil] at f1 f2
 have : Ans (cpJ PR (n + 2) 24 [p.d]) (isI λi=> i = 0 → UT p) := by
  rw [u24]
  refine Zw ?_
  simp -implicitDefEqProofs [D24, h1, h2, h3, h4, h5, h6, h7, h8, h9, h10, h11, f1, f2]
  refine ⟨fun a b => absurd b a, fun a b => ?_⟩
  have q2 := Wt b
  exact k10 (q2 _ (by simp))
 exact this.int
theorem few_nd {n d : Nat} (hn : maxLen + 2000 + d ≤ n) {p : Qw} (hf : XN d p) (h : cpJ PR n 8 [p.d] = some (.bool true)) : UT p := by
 obtain ⟨n, rfl⟩ : ∃ m, n = m + 1 := ⟨n - 1, by omega⟩
 obtain ⟨b, h1, hb⟩ := e23 (n := n) (by omega) hf
 rw [u8] at h
 cases b with
 | false => simp -implicitDefEqProofs [D8, h1] at h
 | true =>
  obtain ⟨i, h2, hi⟩ := e24n (n := n) (by omega) (hb rfl) hf
  simp -implicitDefEqProofs [D8, h1, h2] at h
  exact hi h
end Go.Proofs.YtdibpeknpmhknaaGreat
namespace Go.Proofs.YtdibpeknpmhknaaGreat
open Go
theorem initL_nd : ∀ {l : List ZD}, (l.map ZD.name).Nodup → ∀ {s : ZD}, s ∈ l → Wd s.name l = (s.ctx, true)
 | [], _, s, h => by simp at h
 | x :: l, hn, s, h => by
  rw [List.map_cons, List.nodup_cons] at hn
  rw [Wd]
  rcases List.mem_cons.1 h with rfl | h
  ·rw [if_pos rfl]
  ·rw [if_neg (λe=> hn.1 (by rw [e]; exact List.mem_map.2 ⟨s, h, rfl⟩))]
   exact initL_nd hn.2 h
structure G_ (p : Qw) (q : Q1) : Prop where
 ok : q = Q1.ok p q.name q.ctx
 check : QP p q.ctx = 0
 ini : q.name = [] ∨ V8 p q.name = (q.ctx, true)
theorem G_.conv {p : Qw} (g : Zg p) {q : Q1} (h : G_ p q) : ZF p q = q := by
 obtain ⟨h1, h2, h3⟩ := h
 have e1 : q.home = p := by rw [h1]; rfl
 have e2 : q.at_ = q.ctx := by rw [h1]; rfl
 unfold ZF
 rw [e1, e2, move_self g h2]
 rcases h3 with h3 | h3
 ·have e3 : V8 p q.name = (Q3.z, false) := by unfold V8; rw [if_pos h3]
  rw [e3]
  exact h1.symm
 ·rw [h3]
  exact h1.symm
theorem first_keep {p : Qw} (nd : UT p) (hr : ZP p = true) : ∀ q ∈ Zf p, G_ p q := by
 intro q hq
 obtain ⟨s, hs, rfl⟩ := List.mem_map.1 hq
 simp only [ZP, Bool.and_eq_true, List.all_eq_true] at hr
 have h1 := hr.1 s hs
 have h2 : QP p s.ctx = 0 := by simpa [okS] using h1
 refine ⟨rfl, h2, ?_⟩
 by_cases hn : s.name = []
 ·exact .inl hn
 ·right
  show V8 p s.name = (s.ctx, true)
  unfold V8
  rw [if_neg hn, initL_nd nd hs]
theorem first_names {p : Qw} : ∀ s ∈ p.sids.l, W6 s.name (Zf p) = true := by
 intro s hs
 rw [W6, List.any_eq_true]
 exact ⟨Q1.ok p s.name s.ctx, List.mem_map.2 ⟨s, hs, rfl⟩, by simp [Q1.ok]⟩
structure Keeps (p : Qw) (m : List Q1) : Prop where
 rows : ∀ q ∈ m, G_ p q
 names : ∀ s ∈ p.sids.l, W6 s.name m = true
theorem Keeps.conv {p : Qw} (g : Zg p) {m : List Q1} (h : Keeps p m) (hr : ZP p = true) (hl : m.length ≤ 1024) : ZY p m = (m, 0, 0) := by
 have e1 : m.map (ZF p) = m := by
  have : m.map (ZF p) = m.map id := List.map_congr_left fun q hq => (h.rows q hq).conv g
  rw [this, List.map_id]
 have e2 : WN p m p.sids.l = [] := by
  unfold WN
  rw [List.filter_eq_nil_iff.2 fun s hs => by rw [newF, h.names s hs]; decide]
  rfl
 have e3 : Yb p m = m := by rw [Yb, e1, e2, List.append_nil]
 have e4 : GP p m = 0 := by
  unfold GP
  rw [e1, List.countP_eq_zero]
  intro q hq
  rw [(h.rows q hq).ok]
  simp [Q1.ok]
 unfold ZY
 rw [if_pos hr, e3, if_neg (by omega), e4]
 rfl
theorem find_at {α : Type} {f : α → Bool} : ∀ {l : List α} {k i : Nat} {x : α}, l[k]? = some x → f x = true → ∃ j : Nat, QH f l i = ((i + j : Nat) : Int) ∧ j ≤ k
 | [], k, i, x, h, _ => by simp at h
 | y :: l, k, i, x, h, hx => by
  rw [QH]
  cases hy : f y with
  | true => exact ⟨0, by simp, Nat.zero_le _⟩
  | false =>
   cases k with
   | zero =>
    simp only [List.getElem?_cons_zero, Option.some.injEq] at h
    subst h
    rw [hx] at hy; cases hy
   | succ k =>
    obtain ⟨j, h1, h2⟩ := find_at (i := i + 1) (by simpa using h) hx
    refine ⟨j + 1, ?_, by omega⟩
    rw [if_neg (by simp), h1]
    congr 1
    omega
theorem sid_step {p : Qw} {m : List Q1} (h : Keeps p m) {c : Q3} (hc : QP p c = 0) (hl : m.length < 1024) :
  ∃ (q : Q1) (k : Nat), (YL p m c).2.1 = (k : Int) + 1 ∧ (YL p m c).2.2 = 0 ∧ (YL p m c).1[k]? = some q ∧ q.mapped = true ∧ q.ctx = c ∧ Keeps p (YL p m c).1 ∧ (YL p m c).1.length ≤ m.length + 1 := by
 unfold YL
 rw [if_pos hc]
 rcases Wn (WP c) m 0 with ⟨e, -⟩ | ⟨j, x, e, h1, h2, -⟩
 ·rw [e, show Vh p m c (-1) = (m ++ [Q1.ok p [] c], ((m.length + 1 : Nat) : Int), 0) from if_neg (by omega)]
  refine ⟨Q1.ok p [] c, m.length, rfl, rfl, by simp, rfl, rfl, ⟨fun q hq => ?_, fun s hs => ?_⟩, by simp⟩
  ·rcases List.mem_append.1 hq with hq | hq
   ·exact h.rows q hq
   ·rw [List.mem_singleton.1 hq]
    exact ⟨rfl, hc, .inl rfl⟩
  ·rw [G1, h.names s hs]; rfl
 ·rw [e, Nat.zero_add, show Vh p m c (j : Int) = (m, ((j + 1 : Nat) : Int), 0) from rfl]
  simp only [WP, Bool.and_eq_true, JC] at h2
  exact ⟨x, j, rfl, rfl, h1, h2.1, h2.2, h, by simp⟩
section
variable {n : Nat} (hn : 1000000 ≤ n) (aw : cpJ PR n 9 [] = some (.bool true)) {p : Qw} (g : Zg p) (hr : ZP p = true)
include hn aw
theorem l5_0 {σ : Sto} {id id2 : Nat} {T T2 : ZW} {m : List Q1} (hB : ZC σ id p T m) (hB2 : ZC σ id2 p T2 m) (hm : Keeps p m) (hl : m.length ≤ 1024) : ∀ (k i f : Nat) (u : Qa), i + k = m.length → k < f →
  Qv 1 (L5_0 (cpJ PR n) (ciJ PR n) n (.obj id 0) (.obj id2 0)) f [.int .i64 ((i : Int) + 1), u] σ = some (.done (.bool true) σ) := by
 have h1 := HP (n := n) (by omega) hB
 intro k
 induction k with
 | zero =>
  intro i f u hi hf
  obtain ⟨f, rfl⟩ : ∃ j, f = j + 1 := ⟨f - 1, by omega⟩
  have hi' : ¬ ((i : Int) + 1 ≤ m.length) := by omega
  refine Qt ?_
  simp -implicitDefEqProofs [L5_0, B5_0, h1, hi', aw]
 | succ k ih =>
  intro i f u hi hf
  obtain ⟨f, rfl⟩ : ∃ j, f = j + 1 := ⟨f - 1, by omega⟩
  have hi' : ((i : Int) + 1 ≤ m.length) := by omega
  obtain ⟨q, hq⟩ := Qz (by omega : i < m.length)
  have hq1 : Yd m ((i : Int) + 1) = some q := XR rfl hq
  have hk := hm.rows q (List.mem_of_getElem? hq)
  have hmp : q.mapped = true := by rw [hk.ok]; rfl
  have h2 := HC (n := n) (by omega) hB (by omega) hq1
  have h3 := HC (n := n) (by omega) hB2 (by omega) hq1
  obtain ⟨j, hj, hji⟩ := find_at (f := WP q.ctx) (i := 0) hq (by simp [WP, hmp, JA])
  rw [Nat.zero_add] at hj
  have h4 := both_known (n := n) (by omega) hB (by omega) q.ctx hk.check hj
  have h5 := ne_ctx q.ctx q.ctx
  rw [JA] at h5
  have h6 : ¬ ((i : Int) + 1 < (j : Int) + 1) := by omega
  have h7 : (1 : Int) ≤ (j : Int) + 1 := by omega
  have h8 : ¬ ((j : Int) + 1 < 1) := by omega
  have hwr : IntKind.i64.wrap ((i : Int) + 1 + 1) = ((i + 1 : Nat) : Int) + 1 := by rw [Ze (by omega) (by omega)]; omega
  rw [← ih (i + 1) f u (by omega) (by omega)]
  refine Qx ?_
  simp -implicitDefEqProofs [L5_0, B5_0, h1, hi', h2, h3, h4, h5, h6, h7, h8, hwr, -QZ.eq_1]
include g hr
theorem l5_1 (id : Nat) (l : Sl Q3) (hl : l.l.length ≤ 40) : ∀ (k i f : Nat) (u : Qa) (σ : Sto) (T : ZW) (m : List Q1), i + k = l.l.length → k < f → ZC σ id p T m → Keeps p m → m.length ≤ 8 + i →
  ∃ σ', Qv 0 (L5_1 (cpJ PR n) (ciJ PR n) n (QJ 7 Q3.row l) p.d (.obj id 0)) f [.int .i64 i, u] σ = some (.done (.bool true) σ') := by
 intro k
 induction k with
 | zero =>
  intro i f u σ T m hi hf hB hm hml
  obtain ⟨f, rfl⟩ : ∃ j, f = j + 1 := ⟨f - 1, by omega⟩
  have hi' : ¬ ((i : Int) < l.l.length) := by omega
  obtain ⟨σ', id2, v, h1, -, -, h4, h5⟩ := Gh (n := n) (by omega) (s := ⟨.nil, m⟩) hB (by show m.length ≤ 5000; omega) g
  dsimp only at h1 h4 h5
  rw [hm.conv g hr (by omega)] at h1 h5
  simp only [if_true] at h1 h5
  obtain ⟨-, T2, -, h5⟩ := h5
  have h6 := HP (n := n) (by omega) h4
  have h7 := HP (n := n) (by omega) h5
  have h8 := l5_0 hn aw h4 h5 hm (by omega) m.length 0 n u (by omega) (by omega)
  simp only [Int.natCast_zero, Int.zero_add] at h8
  refine ⟨σ', Qt ?_⟩
  simp -implicitDefEqProofs [L5_1, B5_1, hi', h1, h6, h7, h8]
 | succ k ih =>
  intro i f u σ T m hi hf hB hm hml
  obtain ⟨f, rfl⟩ : ∃ j, f = j + 1 := ⟨f - 1, by omega⟩
  have hi' : ((i : Int) < l.l.length) := by omega
  obtain ⟨c, hc⟩ := Qz (by omega : i < l.l.length)
  have hwr : IntKind.i64.wrap ((i : Int) + 1) = ((i + 1 : Nat) : Int) := Z3 (by omega)
  have hrl := WC hB
  obtain ⟨σ1, T1, h1, h2, -, -⟩ := JO (n := n) (by omega) hB (by omega) c
  by_cases hk : QP p c = 0
  ·obtain ⟨q, j, s1, s2, s3, s4, s5, s6, s7⟩ := sid_step hm hk (by omega)
   rw [s1, s2] at h1
   have hq1 : Yd (YL p m c).1 ((j : Int) + 1) = some q := XR rfl s3
   have h3 := HC (n := n) (by omega) h2 (by omega) hq1
   have h4 := Vs (n := n) (by omega) h2 (by omega) hq1
   rw [s5] at h3
   rw [s4] at h4
   have h5 := ne_ctx c c
   rw [JA] at h5
   obtain ⟨σ', g1⟩ := ih (i + 1) f u σ1 T1 _ (by omega) (by omega) h2 s6 (by omega)
   refine ⟨σ', ?_⟩
   rw [← g1]
   refine Qx ?_
   simp -implicitDefEqProofs [L5_1, B5_1, hi', hc, hwr, h1, h3, h4, h5, -QZ.eq_1]
  ·have e : YL p m c = (m, 0, QP p c) := if_neg hk
   rw [e] at h1 h2
   simp only at h1 h2
   have hk' : (QP p c != 0) = true := by simpa using hk
   obtain ⟨σ', g1⟩ := ih (i + 1) f u σ1 T1 m (by omega) (by omega) h2 hm (by omega)
   refine ⟨σ', ?_⟩
   rw [← g1]
   refine Qx ?_
   generalize QP p c = x at *
   simp -implicitDefEqProofs [L5_1, B5_1, hi', hc, hwr, h1, hk']
end
theorem e5 {n d : Nat} (hn : maxLen + 2000 + d ≤ n) (aw : cpJ PR n 9 [] = some (.bool true)) {p : Qw} (hf : XN d p) (l : Sl Q3) :
  cpJ PR (n + 1) 5 [p.d, QJ 7 Q3.row l] = some (.bool true) := by
 obtain ⟨b, h1, hb⟩ := e8 hn hf
 have hn' : 1000000 ≤ n := by unfold maxLen at hn; omega
 rw [u5]
 cases b with
 | false => simp -implicitDefEqProofs [D5, h1, aw]
 | true =>
 have g := hb rfl
 have nd := few_nd hn hf h1
 by_cases h40 : 40 < l.l.length
 ·have h40' : (40 : Int) < l.l.length := by omega
  simp -implicitDefEqProofs [D5, h1, aw, h40']
 have h40' : ¬ (40 : Int) < l.l.length := by omega
 have hs := g.small.sids
 have h2 := e10 (n := n) (by omega) Qd g
 cases hr : ZP p with
 | false =>
  rw [hr] at h2
  simp only [Bool.false_eq_true, if_false] at h2
  simp -implicitDefEqProofs [D5, h1, aw, h40', h2]
 | true =>
  rw [hr] at h2
  simp only [if_true] at h2
  obtain ⟨σ1, id, T, a1, a2, a3, -, -⟩ := h2
  have hfl : (Zf p).length = p.sids.l.length := by simp [Zf]
  obtain ⟨σ2, c1⟩ := l5_1 hn' aw g hr id l (by omega) l.l.length 0 n (.bool false) σ1 T (Zf p) (by omega) (by omega) a2 ⟨first_keep nd hr, first_names⟩ (by omega)
  simp only [Int.natCast_zero] at c1
  simp -implicitDefEqProofs [D5, h1, aw, h40', a1, c1]
end Go.Proofs.YtdibpeknpmhknaaGreat
namespace Go.Proofs.YtdibpeknpmhknaaGreat
open Go
def NoT (σ : Sto) (x : Qa) : Prop := x = .nilp ∨ ∃ a, x = .obj a 0 ∧ a < σ.nobj ∧ σ.obj a = .agg [.nilp, .nils, .nilm]
theorem NoT.okVal {σ : Sto} {x : Qa} (h : NoT σ x) : x.okVal = true := by
 rcases h with rfl | ⟨a, rfl, -⟩ <;> rfl
section
variable {n : Nat} {σ : Sto} {x : Qa} (h : NoT σ x)
include h
theorem n39 (hn : 1 ≤ n) : ciJ PR n 39 [x] σ = some (.bool false, σ) := by
 obtain ⟨n, rfl⟩ : ∃ m, n = m + 1 := ⟨n - 1, by omega⟩
 rw [v39]
 rcases h with rfl | ⟨a, rfl, h1, h2⟩
 ·simp -implicitDefEqProofs [D39]
 ·have h3 : Q8 σ none [.obj a 0] = some (.nilp, σ) := by rw [Yl _ h2 h1]; rfl
  simp -implicitDefEqProofs [D39, h3]
theorem n45 (hn : 2 ≤ n) (i : Int) : ciJ PR n 45 [x, .int .i64 i] σ = some (.tup [Xi, .bool false], σ) := by
 obtain ⟨n, rfl⟩ : ∃ m, n = m + 1 := ⟨n - 1, by omega⟩
 have h1 := n39 h (n := n) (by omega)
 have ho := h.okVal
 have hz := Hu (cpJ PR n)
 have hzw : Qh 0 10 [Xi, Xi] = some Xi := rfl
 have hzf : Qb 0 (some 10) [Xi] = some Xi := rfl
 rw [v45]
 simp -implicitDefEqProofs [D45, ho, h1, hz, hzw, hzf, -Qh.eq_1, -Qb.eq_1, -POp.sem.eq_17]
theorem n16 (hn : 2 ≤ n) (c : Q3) : ciJ PR n 16 [x, c.d] σ = some (.tup [.int .i64 0, .int .i64 1], σ) := by
 obtain ⟨n, rfl⟩ : ∃ m, n = m + 1 := ⟨n - 1, by omega⟩
 have h1 := n39 h (n := n) (by omega)
 have ho := h.okVal
 rw [v16]
 simp -implicitDefEqProofs [D16, ho, h1]
theorem n17 (hn : 3 ≤ n) (i : Int) : ciJ PR n 17 [x, .int .i64 i] σ = some (.tup [Q3.z.d, .bool false], σ) := by
 obtain ⟨n, rfl⟩ : ∃ m, n = m + 1 := ⟨n - 1, by omega⟩
 have h1 := n45 h (n := n) (by omega) i
 have ho := h.okVal
 have hc := XF (cpJ PR n)
 have hz1 : Qh 0 10 [Xi, Xi] = some Xi := rfl
 have hz2 : Qb 9 none [Xi] = some (.bool false) := rfl
 rw [v17]
 simp -implicitDefEqProofs [D17, ho, h1, hc, hz1, hz2, -Qh.eq_1, -Qb.eq_1, -POp.sem.eq_17]
theorem n18 (hn : 3 ≤ n) (i : Int) : ciJ PR n 18 [x, .int .i64 i] σ = some (.bool false, σ) := by
 obtain ⟨n, rfl⟩ : ∃ m, n = m + 1 := ⟨n - 1, by omega⟩
 have h1 := n45 h (n := n) (by omega) i
 have ho := h.okVal
 have hz1 : Qh 0 10 [Xi, Xi] = some Xi := rfl
 rw [v18]
 simp -implicitDefEqProofs [D18, ho, h1, hz1, -Qh.eq_1]
theorem n21 (hn : 3 ≤ n) (i : Int) : ciJ PR n 21 [x, .int .i64 i] σ = some (.tup [.str [], .bool false], σ) := by
 obtain ⟨n, rfl⟩ : ∃ m, n = m + 1 := ⟨n - 1, by omega⟩
 have h1 := n45 h (n := n) (by omega) i
 have ho := h.okVal
 have hz1 : Qh 0 10 [Xi, Xi] = some Xi := rfl
 have hz2 : Qb 0 none [Xi] = some (.str []) := rfl
 rw [v21]
 simp -implicitDefEqProofs [D21, ho, h1, hz1, hz2, -Qh.eq_1, -Qb.eq_1]
theorem n22 (hn : 3 ≤ n) (i : Int) : ciJ PR n 22 [x, .int .i64 i] σ = some (.tup [.str [], .bool false], σ) := by
 obtain ⟨n, rfl⟩ : ∃ m, n = m + 1 := ⟨n - 1, by omega⟩
 have h1 := n45 h (n := n) (by omega) i
 have ho := h.okVal
 have hz1 : Qh 0 10 [Xi, Xi] = some Xi := rfl
 rw [v22]
 simp -implicitDefEqProofs [D22, ho, h1, hz1, -Qh.eq_1]
theorem n19 (hn : 2 ≤ n) : ciJ PR n 19 [x] σ = some (.int .i64 0, σ) := by
 obtain ⟨n, rfl⟩ : ∃ m, n = m + 1 := ⟨n - 1, by omega⟩
 have h1 := n39 h (n := n) (by omega)
 have ho := h.okVal
 rw [v19]
 simp -implicitDefEqProofs [D19, ho, h1]
theorem n20 (hn : 2 ≤ n) : ciJ PR n 20 [x] σ = some (.nilp, σ) := by
 obtain ⟨n, rfl⟩ : ∃ m, n = m + 1 := ⟨n - 1, by omega⟩
 have h1 := n39 h (n := n) (by omega)
 have ho := h.okVal
 rw [v20]
 simp -implicitDefEqProofs [D20, ho, h1]
theorem n14 (hn : 2 ≤ n) (p q : Qw) : ciJ PR n 14 [x, p.d, q.d] σ = some (.tup [.nilp, .int .i64 0, .int .i64 1], σ) := by
 obtain ⟨n, rfl⟩ : ∃ m, n = m + 1 := ⟨n - 1, by omega⟩
 have h1 := n39 h (n := n) (by omega)
 have ho := h.okVal
 rw [v14]
 simp -implicitDefEqProofs [D14, ho, h1]
end
theorem e7 {n d : Nat} (hn : maxLen + 2000 + d ≤ n) (aw : cpJ PR n 9 [] = some (.bool true)) {p : Qw} (hf : XN d p) (c : Q3) (i : Int) :
  cpJ PR (n + 1) 7 [p.d, c.d, .int .i64 i] = some (.bool true) := by
 obtain ⟨b, h1, hb⟩ := e8 hn hf
 have hn' : 1000 ≤ n := by unfold maxLen at hn; omega
 rw [u7]
 cases b with
 | false => simp -implicitDefEqProofs [D7, h1, aw]
 | true =>
 have step : ∀ (σ : Sto) (x u l : Qa) (j : Nat) (hx : NoT σ x) (hj : j < 2) (hl : Qq 1 [l, .int .i64 (j : Int)] = some (.elem [x] 0)),
   L7_0 (cpJ PR n) (ciJ PR n) n (.int .i64 i) p.d c.d l (.int .i64 2) [.int .i64 (j : Int), u] σ = some (.next 0 [.int .i64 ((j : Int) + 1), u] σ) := by
  intro σ x u l j hx hj hl
  have ho := hx.okVal
  have hj' : ((j : Int) < 2) := by omega
  have hwr : IntKind.i64.wrap ((j : Int) + 1) = (j : Int) + 1 := Ze (by omega) (by omega)
  have a16 := n16 hx (n := n) (by omega) c
  have a17 := n17 hx (n := n) (by omega) i
  have a18 := n18 hx (n := n) (by omega) i
  have a19 := n19 hx (n := n) (by omega)
  have a20 := n20 hx (n := n) (by omega)
  have a21 := n21 hx (n := n) (by omega) i
  have a22 := n22 hx (n := n) (by omega) i
  have a14 := n14 hx (n := n) (by omega) p p
  have hc := XF (cpJ PR n)
  have he := ctx_ne Q3.z
  simp -implicitDefEqProofs [L7_0, B7_0, hj', hl, ho, a16, a17, a18, a19, a20, a21, a22, a14, hc, he, hwr, -QZ.eq_1, -Qq.eq_1, -Qq.eq_2, -POp.sem.eq_17]
 obtain ⟨n, rfl⟩ : ∃ m, n = m + 3 := ⟨n - 3, by omega⟩
 have hb1 : POp.sem (cpJ PR (n + 3)) [] (.build [.nilp, .nils, .nilm] []) = some (.agg [.nilp, .nils, .nilm]) := rfl
 have hx : Z2 Qd [.agg [.nilp, .nils, .nilm]] = some (.obj 0 0, Qd.new (.agg [.nilp, .nils, .nilm])) := rfl
 have hs : POp.sem (cpJ PR (n + 3)) [.nilp, .obj 0 0] (.bslice true 1) = some (.slice true 1 1 [[.nilp], [.obj 0 0]]) := rfl
 have hl : Qf [.slice true 1 1 [[.nilp], [.obj 0 0]]] = some (.int .i64 2) := rfl
 have s0 := step (Qd.new (.agg [.nilp, .nils, .nilm])) .nilp (.bool false) (.slice true 1 1 [[.nilp], [.obj 0 0]]) 0 (.inl rfl) (by decide) rfl
 have s1 := step (Qd.new (.agg [.nilp, .nils, .nilm])) (.obj 0 0) (.bool false) (.slice true 1 1 [[.nilp], [.obj 0 0]]) 1 (.inr ⟨0, rfl, by decide, rfl⟩) (by decide) rfl
 have s2 : L7_0 (cpJ PR (n + 3)) (ciJ PR (n + 3)) (n + 3) (.int .i64 i) p.d c.d (.slice true 1 1 [[.nilp], [.obj 0 0]]) (.int .i64 2) [.int .i64 2, .bool false] (Qd.new (.agg [.nilp, .nils, .nilm])) = some (.done (.bool true) (Qd.new (.agg [.nilp, .nils, .nilm]))) := by
  simp -implicitDefEqProofs [L7_0, B7_0, aw]
 have lp : Qv 0 (L7_0 (cpJ PR (n + 3)) (ciJ PR (n + 3)) (n + 3) (.int .i64 i) p.d c.d (.slice true 1 1 [[.nilp], [.obj 0 0]]) (.int .i64 2)) (n + 3) [.int .i64 0, .bool false] (Qd.new (.agg [.nilp, .nils, .nilm])) = some (.done (.bool true) (Qd.new (.agg [.nilp, .nils, .nilm]))) := by
  rw [show ([.int .i64 0, .bool false] : List Qa) = [.int .i64 ((0 : Nat) : Int), .bool false] from rfl, Qx s0]
  rw [show ([.int .i64 (((0 : Nat) : Int) + 1), .bool false] : List Qa) = [.int .i64 ((1 : Nat) : Int), .bool false] from rfl, Qx s1]
  exact Qt s2
 simp -implicitDefEqProofs [D7, h1, hb1, hx, hs, hl, lp, -POp.sem.eq_17, -POp.sem.eq_18]
end Go.Proofs.YtdibpeknpmhknaaGreat
