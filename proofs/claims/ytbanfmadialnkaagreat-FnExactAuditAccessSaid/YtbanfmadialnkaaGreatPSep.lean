/- Uses that are kept apart. -/
import Derived.Test.YtbanfmadialnkaaGreatPA2
namespace Go.Proofs.YtbanfmadialnkaaGreat.Eng
open Go.RowKit
set_option linter.unusedVariables false
set_option linter.unusedSimpArgs false
set_option linter.unusedSectionVars false
set_option maxRecDepth 100000
variable [Sm]
/- instances too -/
/-- Whether two actions are kept apart. -/
def apart (l : List (List U)) (a b o : Int) : Bool := l.any fun x => decide ((x.getD 2 U0).toInt = o) && (decide (v0 x = a) && decide ((x.getD 1 U0).toInt = b) || decide (v0 x = b) && decide ((x.getD 1 U0).toInt = a))
theorem ZV (l : List (List U)) (hl : l.length ≤ 1048576) (a b o : Int) : GJ.c l a b o = rB (apart l a b o) := by
 rw [GJ.eq]; (try dsimp +instances only [gr, gi, gl, gb, gt, ui, ul, ub, ut, CX, ln, Cu, aI.i, aI.l, aI.b, aI.t, aI.ij, aI.lj, aI.bj, aI.tj])
 refine (SO (l0 := fun i => GJ.l0 l a b o i) (n := l.length) (p := fun i => decide (((l.getD i []).getD 2 U0).toInt = o) && (decide (v0 (l.getD i []) = a) && decide (((l.getD i []).getD 1 U0).toInt = b) || decide (v0 (l.getD i []) = b) && decide (((l.getD i []).getD 1 U0).toInt = a))) ?_ fun i hi => ?_).trans (congrArg rB (JQ l [] fun x => decide ((x.getD 2 U0).toInt = o) && (decide (v0 x = a) && decide ((x.getD 1 U0).toInt = b) || decide (v0 x = b) && decide ((x.getD 1 U0).toInt = a))))
 ·rw [GJ.CZ]; (try dsimp +instances only [gr, gi, gl, gb, gt, ui, ul, ub, ut, CX, ln, Cu, aI.i, aI.l, aI.b, aI.t, aI.ij, aI.lj, aI.bj, aI.tj]); rw [Dq (Nat.le_refl _)]; rfl
 ·rw [GJ.CZ]; (try dsimp +instances only [gr, gi, gl, gb, gt, ui, ul, ub, ut, CX, ln, Cu, aI.i, aI.l, aI.b, aI.t, aI.ij, aI.lj, aI.bj, aI.tj]); rw [Dr hi, Dy, decide_eq_true hi, DC (by omega), Int.toNat_natCast]
  cases decide (((l.getD i []).getD 2 U0).toInt = o)
  ·rfl
  cases decide (((l.getD i []).getD 0 U0).toInt = a) <;> cases decide (((l.getD i []).getD 1 U0).toInt = b) <;> cases decide (((l.getD i []).getD 0 U0).toInt = b) <;> cases decide (((l.getD i []).getD 1 U0).toInt = a) <;> rfl
theorem Tx (l : List (List U)) (hl : l.length ≤ 1048576) (a b o : Int) : LK.c l a b o = rB (l.any fun x => decide (a = v0 x) && (decide (b = (x.getD 1 U0).toInt) && (decide (o = (x.getD 2 U0).toInt) && true))) := by
 have : IC.c l a b o = rI (pos (fun i => decide (a = v0 (l.getD i [])) && (decide (b = ((l.getD i []).getD 1 U0).toInt) && (decide (o = ((l.getD i []).getD 2 U0).toInt) && true))) l.length 0) := by
  rw [IC.eq]; (try dsimp +instances only [gr, gi, gl, gb, gt, ui, ul, ub, ut, CX, ln, Cu, aI.i, aI.l, aI.b, aI.t, aI.ij, aI.lj, aI.bj, aI.tj])
  refine Hs (l0 := fun i => IC.l0 l _ i a b o) (n := l.length) (p := fun i => decide (a = v0 (l.getD i [])) && (decide (b = ((l.getD i []).getD 1 U0).toInt) && (decide (o = ((l.getD i []).getD 2 U0).toInt) && true))) ?_ fun i hi => ?_
  ·rw [IC.CZ]; (try dsimp +instances only [gr, gi, gl, gb, gt, ui, ul, ub, ut, CX, ln, Cu, aI.i, aI.l, aI.b, aI.t, aI.ij, aI.lj, aI.bj, aI.tj]); rw [Dq (Nat.le_refl _)]; rfl
  ·rw [IC.CZ]; (try dsimp +instances only [gr, gi, gl, gb, gt, ui, ul, ub, ut, CX, ln, Cu, aI.i, aI.l, aI.b, aI.t, aI.ij, aI.lj, aI.bj, aI.tj]); rw [Dr hi, Dy, decide_eq_true hi, DC (by omega)]; rfl
 rw [LK.eq]; (try dsimp +instances only [gr, gi, gl, gb, gt, ui, ul, ub, ut, CX, ln, Cu, aI.i, aI.l, aI.b, aI.t, aI.ij, aI.lj, aI.bj, aI.tj]); rw [this]
 show rB (decide (pos _ _ _ ≥ 0)) = _
 rw [Jn fun x => decide (a = v0 x) && (decide (b = (x.getD 1 U0).toInt) && (decide (o = (x.getD 2 U0).toInt) && true))]
theorem Xr (l : List (List U)) (hl : l.length ≤ 1048576) (a b o : Int) : MD.c l a b o = rB (apart l b a o) := by
 rw [MD.eq]; (try dsimp +instances only [gr, gi, gl, gb, gt, ui, ul, ub, ut, CX, ln, Cu, aI.i, aI.l, aI.b, aI.t, aI.ij, aI.lj, aI.bj, aI.tj]); rw [Tx _ hl, Tx _ hl]
 have e : apart l b a o = ((l.any fun x => decide (a = v0 x) && (decide (b = (x.getD 1 U0).toInt) && (decide (o = (x.getD 2 U0).toInt) && true))) || (l.any fun x => decide (b = v0 x) && (decide (a = (x.getD 1 U0).toInt) && (decide (o = (x.getD 2 U0).toInt) && true)))) := by
  unfold apart
  induction l with
  | nil => rfl
  | cons x xs ih =>
   rw [List.any_cons, List.any_cons, List.any_cons, ih (by simp at hl; omega)]
   simp only [eq_comm (a := a), eq_comm (a := b), eq_comm (a := o), Bool.and_true]
   generalize (xs.any _) = A
   generalize (xs.any _) = B
   cases decide ((x.getD 2 U0).toInt = o) <;> cases decide (v0 x = a) <;> cases decide ((x.getD 1 U0).toInt = b) <;> cases decide (v0 x = b) <;> cases decide ((x.getD 1 U0).toInt = a) <;> cases A <;> cases B <;> rfl
 rw [e]
 cases (l.any fun x => decide (a = v0 x) && (decide (b = (x.getD 1 U0).toInt) && (decide (o = (x.getD 2 U0).toInt) && true))) <;> rfl
/-- Whether a use clashes with one before. -/
def Jf (l : List (List U)) (u x : List U) : Bool := decide (v0 u = v0 x) && (decide ((u.getD 2 U0).toInt = (x.getD 2 U0).toInt) && apart l (u.getD 1 U0).toInt (x.getD 1 U0).toInt (u.getD 2 U0).toInt)
def Ke (l us : List (List U)) : Bool := (List.range us.length).all fun i => !((us.take i).any fun x => Jf l (us.getD i []) x)
theorem UP (l us : List (List U)) (hl : l.length ≤ 1048576) (hu : us.length ≤ 1048576) : EE.c l us = rB (Ke l us) := by
 rw [EE.eq]; (try dsimp +instances only [gr, gi, gl, gb, gt, ui, ul, ub, ut, CX, ln, Cu, aI.i, aI.l, aI.b, aI.t, aI.ij, aI.lj, aI.bj, aI.tj])
 refine (Ee (l0 := fun i => EE.l0 l us i) (n := us.length) (p := fun i => !((us.take i).any fun x => Jf l (us.getD i []) x)) (b := true) ?_ fun i hi => ?_).trans (by rw [Bool.and_true]; rfl)
 ·rw [EE.CZ]; (try dsimp +instances only [gr, gi, gl, gb, gt, ui, ul, ub, ut, CX, ln, Cu, aI.i, aI.l, aI.b, aI.t, aI.ij, aI.lj, aI.bj, aI.tj]); rw [Dq (Nat.le_refl _)]; rfl
 ·rw [EE.CZ]; (try dsimp +instances only [gr, gi, gl, gb, gt, ui, ul, ub, ut, CX, ln, Cu, aI.i, aI.l, aI.b, aI.t, aI.ij, aI.lj, aI.bj, aI.tj]); rw [Dr hi]
  have Ab : (us.take i).length = i := by rw [List.length_take]; omega
  refine (Pq (l0 := fun k => EE.l1 l us i k) (n := (us.take i).length) (p := fun k => Jf l (us.getD i []) ((us.take i).getD k [])) (R := EE.l0 l us ((i + 1 : Nat) : Int)) (F := rB false) ?_ fun k hk => ?_).trans ?_
  ·rw [EE.DS]; (try dsimp +instances only [gr, gi, gl, gb, gt, ui, ul, ub, ut, CX, ln, Cu, aI.i, aI.l, aI.b, aI.t, aI.ij, aI.lj, aI.bj, aI.tj]); rw [Ab, Dq (Nat.le_refl _), DC (n := i) (by omega)]; rfl
  ·have e1 : (us.take i).getD k [] = us.getD k [] := by
    rw [List.getD_eq_getElem?_getD, List.getD_eq_getElem?_getD, List.getElem?_take, if_pos (by omega)]
   rw [EE.DS]; (try dsimp +instances only [gr, gi, gl, gb, gt, ui, ul, ub, ut, CX, ln, Cu, aI.i, aI.l, aI.b, aI.t, aI.ij, aI.lj, aI.bj, aI.tj]); rw [Dr (by omega : k < i), Dy, Dy, decide_eq_true hi, decide_eq_true (by omega), DC (n := k) (by omega), e1, ZV _ hl]
   unfold Jf
   simp only [Int.toNat_natCast, cond_true, Option.bind_some, aI.LW, List.getD_cons_zero, U.CS]
   cases decide (v0 (us.getD i []) = v0 (us.getD k []))
   ·rfl
   cases decide (((us.getD i []).getD 2 U0).toInt = ((us.getD k []).getD 2 U0).toInt) <;> rfl
  ·rw [JQ (us.take i) [] fun x => Jf l (us.getD i []) x]
   cases (us.take i).any _ <;> rfl
theorem XZ (l us : List (List U)) (hl : l.length ≤ 1048576) (hu : us.length ≤ 1048576) (u : List U) : Ls.c l us (v0 u) (u.getD 1 U0).toInt (u.getD 2 U0).toInt = rB (!(us.any fun x => Jf l u x)) := by
 have : Iv.c us (v0 u) (u.getD 2 U0).toInt l (u.getD 1 U0).toInt = rI (pos (fun i => Jf l u (us.getD i [])) us.length 0) := by
  rw [Iv.eq]; (try dsimp +instances only [gr, gi, gl, gb, gt, ui, ul, ub, ut, CX, ln, Cu, aI.i, aI.l, aI.b, aI.t, aI.ij, aI.lj, aI.bj, aI.tj])
  refine Hs (l0 := fun i => Iv.l0 us (v0 u) (u.getD 2 U0).toInt l (u.getD 1 U0).toInt _ i) (n := us.length) (p := fun i => Jf l u (us.getD i [])) ?_ fun i hi => ?_
  ·rw [Iv.CZ]; (try dsimp +instances only [gr, gi, gl, gb, gt, ui, ul, ub, ut, CX, ln, Cu, aI.i, aI.l, aI.b, aI.t, aI.ij, aI.lj, aI.bj, aI.tj]); rw [Dq (Nat.le_refl _)]; rfl
  ·rw [Iv.CZ]; (try dsimp +instances only [gr, gi, gl, gb, gt, ui, ul, ub, ut, CX, ln, Cu, aI.i, aI.l, aI.b, aI.t, aI.ij, aI.lj, aI.bj, aI.tj]); rw [Dr hi, Dy, decide_eq_true hi, DC (by omega), Ql.eq, Xr _ hl, Int.toNat_natCast]
   unfold Jf
   simp only [eq_comm (a := v0 u), eq_comm (a := (u.getD 2 U0).toInt)]
   cases decide (v0 (us.getD i []) = v0 u)
   ·rfl
   cases decide (((us.getD i []).getD 2 U0).toInt = (u.getD 2 U0).toInt) <;> rfl
 rw [Ls.eq, QK.eq]; (try dsimp +instances only [gr, gi, gl, gb, gt, ui, ul, ub, ut, CX, ln, Cu, aI.i, aI.l, aI.b, aI.t, aI.ij, aI.lj, aI.bj, aI.tj]); rw [this]
 show rB (!decide (pos _ _ _ ≥ 0)) = _
 rw [Jn (Jf l u)]
theorem TB (l us : List (List U)) (hl : l.length ≤ 1048576) (hu : us.length ≤ 1048576) : Hx.c l us = rB (Ke l us) := by
 rw [Hx.eq]; (try dsimp +instances only [gr, gi, gl, gb, gt, ui, ul, ub, ut, CX, ln, Cu, aI.i, aI.l, aI.b, aI.t, aI.ij, aI.lj, aI.bj, aI.tj])
 refine (Ee (l0 := fun i => Hx.l0 l us us _ i) (n := us.length) (p := fun i => !((us.take i).any fun x => Jf l (us.getD i []) x)) (b := true) ?_ fun i hi => ?_).trans (by rw [Bool.and_true]; rfl)
 ·rw [Hx.CZ]; (try dsimp +instances only [gr, gi, gl, gb, gt, ui, ul, ub, ut, CX, ln, Cu, aI.i, aI.l, aI.b, aI.t, aI.ij, aI.lj, aI.bj, aI.tj]); rw [Dq (Nat.le_refl _)]; rfl
 ·have Ab : (us.take i).length = i := by rw [List.length_take]; omega
  have e0 : Int.toNat ((i : Int) - 0) = i := by omega
  rw [Hx.CZ]; (try dsimp +instances only [gr, gi, gl, gb, gt, ui, ul, ub, ut, CX, ln, Cu, aI.i, aI.l, aI.b, aI.t, aI.ij, aI.lj, aI.bj, aI.tj]); rw [Dr hi, Dy, decide_eq_true hi, DC (by omega), decide_eq_true (by omega), e0, Int.toNat_natCast]
  show ((Ls.c l (us.take i) (v0 (us.getD i [])) ((us.getD i []).getD 1 U0).toInt ((us.getD i []).getD 2 U0).toInt).bind _) = _
  rw [XZ l _ hl (by omega)]
  cases (us.take i).any _ <;> rfl
end Go.Proofs.YtbanfmadialnkaaGreat.Eng
/- half -/
