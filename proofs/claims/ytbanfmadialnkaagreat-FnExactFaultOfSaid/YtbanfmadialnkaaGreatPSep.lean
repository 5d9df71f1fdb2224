/- Uses that are kept apart. -/
import Derived.Test.YtbanfmadialnkaaGreatPA2
namespace Go.Proofs.YtbanfmadialnkaaGreat.Eng
open Go.RowKit
set_option linter.unusedVariables false
set_option linter.unusedSimpArgs false
set_option linter.unusedSectionVars false
set_option maxRecDepth 100000
variable [Sm]
/- instances too -/
/-- Whether two actions are kept apart. -/
def apart (l : List (List U)) (a b o : Int) : Bool := l.any fun x => decide ((x.getD 2 U0).toInt = o) && (decide (v0 x = a) && decide ((x.getD 1 U0).toInt = b) || decide (v0 x = b) && decide ((x.getD 1 U0).toInt = a))
theorem NH (l : List (List U)) (hl : l.length ≤ 1048576) (a b o : Int) : gM.c l a b o = rB (apart l a b o) := by
 rw [gM.eq]; (try dsimp +instances only [gr, gi, gl, gb, gt, ui, ul, ub, ut, ab, ln, ae, aa.i, aa.l, aa.b, aa.t, aa.ij, aa.lj, aa.bj, aa.tj])
 refine (Hz (l0 := fun i => gM.l0 l a b o i) (n := l.length) (p := fun i => decide (((l.getD i []).getD 2 U0).toInt = o) && (decide (v0 (l.getD i []) = a) && decide (((l.getD i []).getD 1 U0).toInt = b) || decide (v0 (l.getD i []) = b) && decide (((l.getD i []).getD 1 U0).toInt = a))) ?_ fun i hi => ?_).trans (congrArg rB (ov l [] fun x => decide ((x.getD 2 U0).toInt = o) && (decide (v0 x = a) && decide ((x.getD 1 U0).toInt = b) || decide (v0 x = b) && decide ((x.getD 1 U0).toInt = a))))
 ·rw [gM.ah]; (try dsimp +instances only [gr, gi, gl, gb, gt, ui, ul, ub, ut, ab, ln, ae, aa.i, aa.l, aa.b, aa.t, aa.ij, aa.lj, aa.bj, aa.tj]); rw [aQ (Nat.le_refl _)]; rfl
 ·rw [gM.ah]; (try dsimp +instances only [gr, gi, gl, gb, gt, ui, ul, ub, ut, ab, ln, ae, aa.i, aa.l, aa.b, aa.t, aa.ij, aa.lj, aa.bj, aa.tj]); rw [aR hi, bg, decide_eq_true hi, bt (by omega), Int.toNat_natCast]
  cases decide (((l.getD i []).getD 2 U0).toInt = o)
  ·rfl
  cases decide (((l.getD i []).getD 0 U0).toInt = a) <;> cases decide (((l.getD i []).getD 1 U0).toInt = b) <;> cases decide (((l.getD i []).getD 0 U0).toInt = b) <;> cases decide (((l.getD i []).getD 1 U0).toInt = a) <;> rfl
theorem HA (l : List (List U)) (hl : l.length ≤ 1048576) (a b o : Int) : tB.c l a b o = rB (l.any fun x => decide (a = v0 x) && (decide (b = (x.getD 1 U0).toInt) && (decide (o = (x.getD 2 U0).toInt) && true))) := by
 have : lg.c l a b o = rI (pos (fun i => decide (a = v0 (l.getD i [])) && (decide (b = ((l.getD i []).getD 1 U0).toInt) && (decide (o = ((l.getD i []).getD 2 U0).toInt) && true))) l.length 0) := by
  rw [lg.eq]; (try dsimp +instances only [gr, gi, gl, gb, gt, ui, ul, ub, ut, ab, ln, ae, aa.i, aa.l, aa.b, aa.t, aa.ij, aa.lj, aa.bj, aa.tj])
  refine kj (l0 := fun i => lg.l0 l _ i a b o) (n := l.length) (p := fun i => decide (a = v0 (l.getD i [])) && (decide (b = ((l.getD i []).getD 1 U0).toInt) && (decide (o = ((l.getD i []).getD 2 U0).toInt) && true))) ?_ fun i hi => ?_
  ·rw [lg.ah]; (try dsimp +instances only [gr, gi, gl, gb, gt, ui, ul, ub, ut, ab, ln, ae, aa.i, aa.l, aa.b, aa.t, aa.ij, aa.lj, aa.bj, aa.tj]); rw [aQ (Nat.le_refl _)]; rfl
  ·rw [lg.ah]; (try dsimp +instances only [gr, gi, gl, gb, gt, ui, ul, ub, ut, ab, ln, ae, aa.i, aa.l, aa.b, aa.t, aa.ij, aa.lj, aa.bj, aa.tj]); rw [aR hi, bg, decide_eq_true hi, bt (by omega)]; rfl
 rw [tB.eq]; (try dsimp +instances only [gr, gi, gl, gb, gt, ui, ul, ub, ut, ab, ln, ae, aa.i, aa.l, aa.b, aa.t, aa.ij, aa.lj, aa.bj, aa.tj]); rw [this]
 show rB (decide (pos _ _ _ ≥ 0)) = _
 rw [nH fun x => decide (a = v0 x) && (decide (b = (x.getD 1 U0).toInt) && (decide (o = (x.getD 2 U0).toInt) && true))]
theorem NI (l : List (List U)) (hl : l.length ≤ 1048576) (a b o : Int) : wj.c l a b o = rB (apart l b a o) := by
 rw [wj.eq]; (try dsimp +instances only [gr, gi, gl, gb, gt, ui, ul, ub, ut, ab, ln, ae, aa.i, aa.l, aa.b, aa.t, aa.ij, aa.lj, aa.bj, aa.tj]); rw [HA _ hl, HA _ hl]
 have e : apart l b a o = ((l.any fun x => decide (a = v0 x) && (decide (b = (x.getD 1 U0).toInt) && (decide (o = (x.getD 2 U0).toInt) && true))) || (l.any fun x => decide (b = v0 x) && (decide (a = (x.getD 1 U0).toInt) && (decide (o = (x.getD 2 U0).toInt) && true)))) := by
  unfold apart
  induction l with
  | nil => rfl
  | cons x xs ih =>
   rw [List.any_cons, List.any_cons, List.any_cons, ih (by simp at hl; omega)]
   simp only [eq_comm (a := a), eq_comm (a := b), eq_comm (a := o), Bool.and_true]
   generalize (xs.any _) = A
   generalize (xs.any _) = B
   cases decide ((x.getD 2 U0).toInt = o) <;> cases decide (v0 x = a) <;> cases decide ((x.getD 1 U0).toInt = b) <;> cases decide (v0 x = b) <;> cases decide ((x.getD 1 U0).toInt = a) <;> cases A <;> cases B <;> rfl
 rw [e]
 cases (l.any fun x => decide (a = v0 x) && (decide (b = (x.getD 1 U0).toInt) && (decide (o = (x.getD 2 U0).toInt) && true))) <;> rfl
/-- Whether a use clashes with one before. -/
def mY (l : List (List U)) (u x : List U) : Bool := decide (v0 u = v0 x) && (decide ((u.getD 2 U0).toInt = (x.getD 2 U0).toInt) && apart l (u.getD 1 U0).toInt (x.getD 1 U0).toInt (u.getD 2 U0).toInt)
def pQ (l us : List (List U)) : Bool := (List.range us.length).all fun i => !((us.take i).any fun x => mY l (us.getD i []) x)
theorem Ht (l us : List (List U)) (hl : l.length ≤ 1048576) (hu : us.length ≤ 1048576) : ee.c l us = rB (pQ l us) := by
 rw [ee.eq]; (try dsimp +instances only [gr, gi, gl, gb, gt, ui, ul, ub, ut, ab, ln, ae, aa.i, aa.l, aa.b, aa.t, aa.ij, aa.lj, aa.bj, aa.tj])
 refine (dr (l0 := fun i => ee.l0 l us i) (n := us.length) (p := fun i => !((us.take i).any fun x => mY l (us.getD i []) x)) (b := true) ?_ fun i hi => ?_).trans (by rw [Bool.and_true]; rfl)
 ·rw [ee.ah]; (try dsimp +instances only [gr, gi, gl, gb, gt, ui, ul, ub, ut, ab, ln, ae, aa.i, aa.l, aa.b, aa.t, aa.ij, aa.lj, aa.bj, aa.tj]); rw [aQ (Nat.le_refl _)]; rfl
 ·rw [ee.ah]; (try dsimp +instances only [gr, gi, gl, gb, gt, ui, ul, ub, ut, ab, ln, ae, aa.i, aa.l, aa.b, aa.t, aa.ij, aa.lj, aa.bj, aa.tj]); rw [aR hi]
  have tC : (us.take i).length = i := by rw [List.length_take]; omega
  refine (A0 (l0 := fun k => ee.l1 l us i k) (n := (us.take i).length) (p := fun k => mY l (us.getD i []) ((us.take i).getD k [])) (R := ee.l0 l us ((i + 1 : Nat) : Int)) (F := rB false) ?_ fun k hk => ?_).trans ?_
  ·rw [ee.cH]; (try dsimp +instances only [gr, gi, gl, gb, gt, ui, ul, ub, ut, ab, ln, ae, aa.i, aa.l, aa.b, aa.t, aa.ij, aa.lj, aa.bj, aa.tj]); rw [tC, aQ (Nat.le_refl _), bt (n := i) (by omega)]; rfl
  ·have e1 : (us.take i).getD k [] = us.getD k [] := by
    rw [List.getD_eq_getElem?_getD, List.getD_eq_getElem?_getD, List.getElem?_take, if_pos (by omega)]
   rw [ee.cH]; (try dsimp +instances only [gr, gi, gl, gb, gt, ui, ul, ub, ut, ab, ln, ae, aa.i, aa.l, aa.b, aa.t, aa.ij, aa.lj, aa.bj, aa.tj]); rw [aR (by omega : k < i), bg, bg, decide_eq_true hi, decide_eq_true (by omega), bt (n := k) (by omega), e1, NH _ hl]
   unfold mY
   simp only [Int.toNat_natCast, cond_true, Option.bind_some, aa.tt, List.getD_cons_zero, U.kh]
   cases decide (v0 (us.getD i []) = v0 (us.getD k []))
   ·rfl
   cases decide (((us.getD i []).getD 2 U0).toInt = ((us.getD k []).getD 2 U0).toInt) <;> rfl
  ·rw [ov (us.take i) [] fun x => mY l (us.getD i []) x]
   cases (us.take i).any _ <;> rfl
theorem NJ (l us : List (List U)) (hl : l.length ≤ 1048576) (hu : us.length ≤ 1048576) (u : List U) : tD.c l us (v0 u) (u.getD 1 U0).toInt (u.getD 2 U0).toInt = rB (!(us.any fun x => mY l u x)) := by
 have : lh.c us (v0 u) (u.getD 2 U0).toInt l (u.getD 1 U0).toInt = rI (pos (fun i => mY l u (us.getD i [])) us.length 0) := by
  rw [lh.eq]; (try dsimp +instances only [gr, gi, gl, gb, gt, ui, ul, ub, ut, ab, ln, ae, aa.i, aa.l, aa.b, aa.t, aa.ij, aa.lj, aa.bj, aa.tj])
  refine kj (l0 := fun i => lh.l0 us (v0 u) (u.getD 2 U0).toInt l (u.getD 1 U0).toInt _ i) (n := us.length) (p := fun i => mY l u (us.getD i [])) ?_ fun i hi => ?_
  ·rw [lh.ah]; (try dsimp +instances only [gr, gi, gl, gb, gt, ui, ul, ub, ut, ab, ln, ae, aa.i, aa.l, aa.b, aa.t, aa.ij, aa.lj, aa.bj, aa.tj]); rw [aQ (Nat.le_refl _)]; rfl
  ·rw [lh.ah]; (try dsimp +instances only [gr, gi, gl, gb, gt, ui, ul, ub, ut, ab, ln, ae, aa.i, aa.l, aa.b, aa.t, aa.ij, aa.lj, aa.bj, aa.tj]); rw [aR hi, bg, decide_eq_true hi, bt (by omega), A4.eq, NI _ hl, Int.toNat_natCast]
   unfold mY
   simp only [eq_comm (a := v0 u), eq_comm (a := (u.getD 2 U0).toInt)]
   cases decide (v0 (us.getD i []) = v0 u)
   ·rfl
   cases decide (((us.getD i []).getD 2 U0).toInt = (u.getD 2 U0).toInt) <;> rfl
 rw [tD.eq, A5.eq]; (try dsimp +instances only [gr, gi, gl, gb, gt, ui, ul, ub, ut, ab, ln, ae, aa.i, aa.l, aa.b, aa.t, aa.ij, aa.lj, aa.bj, aa.tj]); rw [this]
 show rB (!decide (pos _ _ _ ≥ 0)) = _
 rw [nH (mY l u)]
theorem Hu (l us : List (List U)) (hl : l.length ≤ 1048576) (hu : us.length ≤ 1048576) : kk.c l us = rB (pQ l us) := by
 rw [kk.eq]; (try dsimp +instances only [gr, gi, gl, gb, gt, ui, ul, ub, ut, ab, ln, ae, aa.i, aa.l, aa.b, aa.t, aa.ij, aa.lj, aa.bj, aa.tj])
 refine (dr (l0 := fun i => kk.l0 l us us _ i) (n := us.length) (p := fun i => !((us.take i).any fun x => mY l (us.getD i []) x)) (b := true) ?_ fun i hi => ?_).trans (by rw [Bool.and_true]; rfl)
 ·rw [kk.ah]; (try dsimp +instances only [gr, gi, gl, gb, gt, ui, ul, ub, ut, ab, ln, ae, aa.i, aa.l, aa.b, aa.t, aa.ij, aa.lj, aa.bj, aa.tj]); rw [aQ (Nat.le_refl _)]; rfl
 ·have tC : (us.take i).length = i := by rw [List.length_take]; omega
  have e0 : Int.toNat ((i : Int) - 0) = i := by omega
  rw [kk.ah]; (try dsimp +instances only [gr, gi, gl, gb, gt, ui, ul, ub, ut, ab, ln, ae, aa.i, aa.l, aa.b, aa.t, aa.ij, aa.lj, aa.bj, aa.tj]); rw [aR hi, bg, decide_eq_true hi, bt (by omega), decide_eq_true (by omega), e0, Int.toNat_natCast]
  show ((tD.c l (us.take i) (v0 (us.getD i [])) ((us.getD i []).getD 1 U0).toInt ((us.getD i []).getD 2 U0).toInt).bind _) = _
  rw [NJ l _ hl (by omega)]
  cases (us.take i).any _ <;> rfl
end Go.Proofs.YtbanfmadialnkaaGreat.Eng
/- half -/
