/- Shares,issuers,pairs of roles,epochs. -/
import Derived.Test.YtaghmjcfaplkiaaGreatPB1
import Derived.Test.YtaghmjcfaplkiaaGreatPG
namespace Go.Proofs.YtaghmjcfaplkiaaGreat.Eng
open Go.RowKit
set_option linter.unusedVariables false
set_option linter.unusedSimpArgs false
set_option linter.unusedSectionVars false
set_option maxRecDepth 100000
variable [Sm]
/-! ### Shares -/
theorem aev (a b : Int) : Rw.c a b = rI (min b a):=by
 rw [Rw.eq]
 by_cases h : b < a
 ·first | rw [qQa h,Int.min_eq_left (by omega)]; rfl | (simp only [cI]; congr 1; simp [h]; omega)
 ·first | rw [qQm h,Int.min_eq_right (by omega)]; rfl | (simp only [cI]; congr 1; simp [h]; omega)
def XX (n : Int) (x : List U) : Int:=Ft (n + max (min (ui x 1) 101) 0)
def NC (xs : LL) : Int:=xs.foldl XX 0
theorem adn (xs : LL) (hx : xs.length ≤ 1048576) : LZ.c xs = rI (NC xs):=by
 rw [LZ.eq]
 refine NW (l0:=fun n i=>LZ.l0 n xs _ i) (xs:=xs) (st:=XX) (R:=rI) (fun n=>?_) (fun i hi n=>?_) 0
 ·rw [LZ.Fx,FO (qQb _)]; rfl
 ·rw [LZ.Fx,FN hi,FU hi,FZ (by omega),Zt,Xq]; rfl
theorem aeK (xs : LL) (hx : xs.length ≤ 1048576) : Lr.c xs = rI (NC xs):=by
 rw [Lr.eq]
 refine NW (l0:=fun n i=>Lr.l0 xs n i) (xs:=xs) (st:=XX) (R:=rI) (fun n=>?_) (fun i hi n=>?_) 0
 ·rw [Lr.Fx,FO (qQb _)]; rfl
 ·rw [Lr.Fx,FN hi,FU hi,FZ (by omega),aan]
  show ((Rw.c 101 (max 0 (ui (xs.getD i []) 1))).bind _) = _
  rw [aev]
  show Lr.l0 xs (Ft (n + min (max 0 (ui (xs.getD i []) 1)) 101)) _ = Lr.l0 xs (Ft (n + max (min (ui (xs.getD i []) 1) 101) 0)) _
  rw [show min (max 0 (ui (xs.getD i []) 1)) 101 = max (min (ui (xs.getD i []) 1) 101) 0 by omega]
def Nv (x : List U) : Bool:=!decide (ui x 1 < 0)
def Wz (xs : LL) : Bool:=ordered Nv Jf xs && (decide (ln xs ≤ 6) && decide (NC xs ≤ 100))
theorem aeJ (xs : LL) (hx : xs.length ≤ 1048576) : LM.c xs = rB (ordered Nv Jf xs && (decide (ln xs ≤ 6) && decide (NC xs ≤ 100))):=by
 rw [LM.eq]
 refine Oj (l0:=fun i=>LM.l0 xs i) (n:=xs.length) (p:=fun i=>Nv (xs.getD i []) && Oi Jf xs i) (b:=(decide (ln xs ≤ 6) && decide (NC xs ≤ 100))) ?_ fun i hi=>?_
 ·rw [LM.Fx,FO (qQb _)]; rw [aeK xs hx]; show (bif decide (ln xs ≤ 6) then rB (decide (NC xs ≤ 100)) else rB false) = _; cases decide (ln xs ≤ 6) <;> rfl
 ·have BA:=hi
  rw [LM.Fx,FN hi,FU hi,FZ (by omega)]
  show (bif decide (ui (xs.getD i []) 1 < 0) then _ else _) = bif Nv (xs.getD i []) && Oi Jf xs i then _ else rB false
  unfold Nv
  cases decide (ui (xs.getD i []) 1 < 0)
  rotate_left
  ·rfl
  cases i with
  | zero=>rfl
  | succ i =>
   rw [Wx (by omega),FU (show i < xs.length by omega),Wh]
   show (bif decide (v0 (xs.getD i []) ≥ v0 (xs.getD (i + 1) [])) then _ else _) = bif !((decide (v0 (xs.getD i []) ≥ v0 (xs.getD (i + 1) [])))) then _ else rB false
   cases decide (v0 (xs.getD i []) ≥ v0 (xs.getD (i + 1) [])) <;> rfl
theorem adm (xs : LL) (hx : xs.length ≤ 1048576) : LB.c xs = rB (ordered Nv Jf xs && (decide (ln xs ≤ 6) && decide (NC xs ≤ 100))):=by
 rw [LB.eq]
 refine Oj (l0:=fun i=>LB.l0 xs xs _ i) (n:=xs.length) (p:=fun i=>Nv (xs.getD i []) && Oi Jf xs i) (b:=(decide (ln xs ≤ 6) && decide (NC xs ≤ 100))) ?_ fun i hi=>?_
 ·rw [LB.Fx,FO (qQb _)]; rw [adn xs hx]; show (bif decide (ln xs ≤ 6) then rB (decide (NC xs ≤ 100)) else rB false) = _; cases decide (ln xs ≤ 6) <;> rfl
 ·have BA:=hi
  rw [LB.Fx,FN hi,FU hi,FZ (by omega)]
  show (bif decide (ui (xs.getD i []) 1 < 0) then _ else _) = bif Nv (xs.getD i []) && Oi Jf xs i then _ else rB false
  unfold Nv
  cases decide (ui (xs.getD i []) 1 < 0)
  rotate_left
  ·rfl
  cases i with
  | zero=>rfl
  | succ i =>
   rw [Wx (by omega),FU (show i < xs.length by omega),Wh]
   show (bif decide (v0 (xs.getD i []) ≥ v0 (xs.getD (i + 1) [])) then _ else _) = bif !((decide (v0 (xs.getD i []) ≥ v0 (xs.getD (i + 1) [])))) then _ else rB false
   cases decide (v0 (xs.getD i []) ≥ v0 (xs.getD (i + 1) [])) <;> rfl
end Go.Proofs.YtaghmjcfaplkiaaGreat.Eng
/- half -/
