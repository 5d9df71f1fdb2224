/- Uses that are kept apart. -/
import Derived.Test.YtaghmjcfaplkiaaGreatPA2
namespace Go.Proofs.YtaghmjcfaplkiaaGreat.Eng
open Go.RowKit
set_option linter.unusedVariables false
set_option linter.unusedSimpArgs false
set_option linter.unusedSectionVars false
set_option maxRecDepth 100000
variable [Sm]
/- instances too -/
/-- Whether two actions are kept apart. -/
def apart (l : List (List U)) (a b o : Int) : Bool:=l.any fun x=>decide ((x.getD 2 U0).toInt = o) && (decide (v0 x = a) && decide ((x.getD 1 U0).toInt = b) || decide (v0 x = b) && decide ((x.getD 1 U0).toInt = a))
theorem ad0 (l : List (List U)) (hl : l.length ≤ 1048576) (a b o : Int) : Ke.c l a b o = rB (apart l a b o):=by
 rw [Ke.eq]; (try dsimp +instances only [gr,gi,gl,gb,gt,ui,ul,ub,ut,Ft,ln,EK,aJ.i,aJ.l,aJ.b,aJ.t,aJ.ij,aJ.lj,aJ.bj,aJ.tj])
 refine (Yl (l0:=fun i=>Ke.l0 l a b o i) (n:=l.length) (p:=fun i=>decide (((l.getD i []).getD 2 U0).toInt = o) && (decide (v0 (l.getD i []) = a) && decide (((l.getD i []).getD 1 U0).toInt = b) || decide (v0 (l.getD i []) = b) && decide (((l.getD i []).getD 1 U0).toInt = a))) ?_ fun i hi=>?_).trans (qQq rB (Ri l [] fun x=>decide ((x.getD 2 U0).toInt = o) && (decide (v0 x = a) && decide ((x.getD 1 U0).toInt = b) || decide (v0 x = b) && decide ((x.getD 1 U0).toInt = a))))
 ·rw [Ke.Fx]; (try dsimp +instances only [gr,gi,gl,gb,gt,ui,ul,ub,ut,Ft,ln,EK,aJ.i,aJ.l,aJ.b,aJ.t,aJ.ij,aJ.lj,aJ.bj,aJ.tj]); rw [FO (qQb _)]; rfl
 ·rw [Ke.Fx]; (try dsimp +instances only [gr,gi,gl,gb,gt,ui,ul,ub,ut,Ft,ln,EK,aJ.i,aJ.l,aJ.b,aJ.t,aJ.ij,aJ.lj,aJ.bj,aJ.tj]); rw [FN hi,FR,qQa hi,FW (by omega),qQd]
  cases decide (((l.getD i []).getD 2 U0).toInt = o)
  ·rfl
  cases decide (((l.getD i []).getD 0 U0).toInt = a) <;> cases decide (((l.getD i []).getD 1 U0).toInt = b) <;> cases decide (((l.getD i []).getD 0 U0).toInt = b) <;> cases decide (((l.getD i []).getD 1 U0).toInt = a) <;> rfl
theorem Zb (l : List (List U)) (hl : l.length ≤ 1048576) (a b o : Int) : Rn.c l a b o = rB (l.any fun x=>decide (a = v0 x) && (decide (b = (x.getD 1 U0).toInt) && (decide (o = (x.getD 2 U0).toInt) && true))):=by
 have : Mw.c l a b o = rI (pos (fun i=>decide (a = v0 (l.getD i [])) && (decide (b = ((l.getD i []).getD 1 U0).toInt) && (decide (o = ((l.getD i []).getD 2 U0).toInt) && true))) l.length 0):=by
  rw [Mw.eq]; (try dsimp +instances only [gr,gi,gl,gb,gt,ui,ul,ub,ut,Ft,ln,EK,aJ.i,aJ.l,aJ.b,aJ.t,aJ.ij,aJ.lj,aJ.bj,aJ.tj])
  refine La (l0:=fun i=>Mw.l0 l _ i a b o) (n:=l.length) (p:=fun i=>decide (a = v0 (l.getD i [])) && (decide (b = ((l.getD i []).getD 1 U0).toInt) && (decide (o = ((l.getD i []).getD 2 U0).toInt) && true))) ?_ fun i hi=>?_
  ·rw [Mw.Fx]; (try dsimp +instances only [gr,gi,gl,gb,gt,ui,ul,ub,ut,Ft,ln,EK,aJ.i,aJ.l,aJ.b,aJ.t,aJ.ij,aJ.lj,aJ.bj,aJ.tj]); rw [FO (qQb _)]; rfl
  ·rw [Mw.Fx]; (try dsimp +instances only [gr,gi,gl,gb,gt,ui,ul,ub,ut,Ft,ln,EK,aJ.i,aJ.l,aJ.b,aJ.t,aJ.ij,aJ.lj,aJ.bj,aJ.tj]); rw [FN hi,FR,qQa hi,FW (by omega)]; rfl
 rw [Rn.eq]; (try dsimp +instances only [gr,gi,gl,gb,gt,ui,ul,ub,ut,Ft,ln,EK,aJ.i,aJ.l,aJ.b,aJ.t,aJ.ij,aJ.lj,aJ.bj,aJ.tj]); rw [this]
 show rB (decide (pos _ _ _ ≥ 0)) = _
 rw [Ql fun x=>decide (a = v0 x) && (decide (b = (x.getD 1 U0).toInt) && (decide (o = (x.getD 2 U0).toInt) && true))]
theorem acx (l : List (List U)) (hl : l.length ≤ 1048576) (a b o : Int) : Sk.c l a b o = rB (apart l b a o):=by
 rw [Sk.eq]; (try dsimp +instances only [gr,gi,gl,gb,gt,ui,ul,ub,ut,Ft,ln,EK,aJ.i,aJ.l,aJ.b,aJ.t,aJ.ij,aJ.lj,aJ.bj,aJ.tj]); rw [Zb _ hl,Zb _ hl]
 have e : apart l b a o = ((l.any fun x=>decide (a = v0 x) && (decide (b = (x.getD 1 U0).toInt) && (decide (o = (x.getD 2 U0).toInt) && true))) || (l.any fun x=>decide (b = v0 x) && (decide (a = (x.getD 1 U0).toInt) && (decide (o = (x.getD 2 U0).toInt) && true)))):=by
  unfold apart
  induction l with
  | nil=>rfl
  | cons x xs ih =>
   rw [qYn,qYn,qYn,ih (by simp at hl; omega)]
   simp only [eq_comm (a:=a),eq_comm (a:=b),eq_comm (a:=o),qXs]
   generalize (xs.any _) = A
   generalize (xs.any _) = B
   cases decide ((x.getD 2 U0).toInt = o) <;> cases decide (v0 x = a) <;> cases decide ((x.getD 1 U0).toInt = b) <;> cases decide (v0 x = b) <;> cases decide ((x.getD 1 U0).toInt = a) <;> cases A <;> cases B <;> rfl
 rw [e]
 cases (l.any fun x=>decide (a = v0 x) && (decide (b = (x.getD 1 U0).toInt) && (decide (o = (x.getD 2 U0).toInt) && true))) <;> rfl
/-- Whether a use clashes with one before. -/
def LR (l : List (List U)) (u x : List U) : Bool:=decide (v0 u = v0 x) && (decide ((u.getD 2 U0).toInt = (x.getD 2 U0).toInt) && apart l (u.getD 1 U0).toInt (x.getD 1 U0).toInt (u.getD 2 U0).toInt)
theorem ac6 (l us : List (List U)) (hl : l.length ≤ 1048576) (hu : us.length ≤ 1048576) (u : List U) : QG.c l us (v0 u) (u.getD 1 U0).toInt (u.getD 2 U0).toInt = rB (!(us.any fun x=>LR l u x)):=by
 have : Mq.c us (v0 u) (u.getD 2 U0).toInt l (u.getD 1 U0).toInt = rI (pos (fun i=>LR l u (us.getD i [])) us.length 0):=by
  rw [Mq.eq]; (try dsimp +instances only [gr,gi,gl,gb,gt,ui,ul,ub,ut,Ft,ln,EK,aJ.i,aJ.l,aJ.b,aJ.t,aJ.ij,aJ.lj,aJ.bj,aJ.tj])
  refine La (l0:=fun i=>Mq.l0 us (v0 u) (u.getD 2 U0).toInt l (u.getD 1 U0).toInt _ i) (n:=us.length) (p:=fun i=>LR l u (us.getD i [])) ?_ fun i hi=>?_
  ·rw [Mq.Fx]; (try dsimp +instances only [gr,gi,gl,gb,gt,ui,ul,ub,ut,Ft,ln,EK,aJ.i,aJ.l,aJ.b,aJ.t,aJ.ij,aJ.lj,aJ.bj,aJ.tj]); rw [FO (qQb _)]; rfl
  ·rw [Mq.Fx]; (try dsimp +instances only [gr,gi,gl,gb,gt,ui,ul,ub,ut,Ft,ln,EK,aJ.i,aJ.l,aJ.b,aJ.t,aJ.ij,aJ.lj,aJ.bj,aJ.tj]); rw [FN hi,FR,qQa hi,FW (by omega),VR.eq,acx _ hl,qQd]
   unfold LR
   simp only [eq_comm (a:=v0 u),eq_comm (a:=(u.getD 2 U0).toInt)]
   cases decide (v0 (us.getD i []) = v0 u)
   ·rfl
   cases decide (((us.getD i []).getD 2 U0).toInt = (u.getD 2 U0).toInt) <;> rfl
 rw [QG.eq,Wq.eq]; (try dsimp +instances only [gr,gi,gl,gb,gt,ui,ul,ub,ut,Ft,ln,EK,aJ.i,aJ.l,aJ.b,aJ.t,aJ.ij,aJ.lj,aJ.bj,aJ.tj]); rw [this]
 show rB (!decide (pos _ _ _ ≥ 0)) = _
 rw [Ql (LR l u)]
end Go.Proofs.YtaghmjcfaplkiaaGreat.Eng
/- half -/
