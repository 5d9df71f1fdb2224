/- Lists in order: shared facts,issuers,epochs,revocations,shares. -/
import Derived.Test.YtaghmjcfaplkiaaGreatPA8
namespace Go.Proofs.YtaghmjcfaplkiaaGreat.Eng
open Go.RowKit
set_option linter.unusedVariables false
set_option linter.unusedSimpArgs false
set_option linter.unusedSectionVars false
set_option maxRecDepth 100000
variable [Sm]
/-- No neighbours of which the test says that they stand wrong. -/
def Oi (bad : List U → List U → Bool) (xs : LL) : Nat → Bool
 | 0=>true
 | i + 1=>!bad (xs.getD i []) (xs.getD (i + 1) [])
theorem Wx {i : Nat} (h : i ≤ 4611686018427387904) : Ft (((i + 1 : Nat) : Int) - 1) = (i : Int):=by rw [Jg (by omega) (by omega)]; omega
theorem Wh {i : Nat} : decide (((i + 1 : Nat) : Int) > 0) = true:=qQa (by omega)
def ordered (acb : List U → Bool) (bad : List U → List U → Bool) (xs : LL) : Bool:=(List.range xs.length).all fun i=>acb (xs.getD i []) && Oi bad xs i
def Jf (a b : List U) : Bool:=decide (v0 a ≥ v0 b)
def Nq (lo hi : Int) (x : List U) : Bool:=within (v0 x) lo hi
theorem acA (xs : LL) (hx : xs.length ≤ 1048576) (m M : Int) : LG.c xs m M = rB (ordered (Nq m M) Jf xs && true):=by
 rw [LG.eq]
 refine Oj (l0:=fun i=>LG.l0 xs m M xs _ i) (n:=xs.length) (p:=fun i=>(Nq m M) (xs.getD i []) && Oi Jf xs i) (b:=true) ?_ fun i hi=>?_
 ·rw [LG.Fx,FO (qQb _)]; rfl
 ·have BA:=hi
  rw [LG.Fx,FN hi,FU hi,FZ (by omega),HQ]
  show (bif !within (v0 (xs.getD i [])) m M then _ else _) = bif (Nq m M) (xs.getD i []) && Oi Jf xs i then _ else rB false
  unfold Nq
  cases within (v0 (xs.getD i [])) m M
  ·rfl
  cases i with
  | zero=>rfl
  | succ i =>
   rw [Wx (by omega),FU (show i < xs.length by omega),Wh]
   show (bif decide (v0 (xs.getD i []) ≥ v0 (xs.getD (i + 1) [])) then _ else _) = bif !((decide (v0 (xs.getD i []) ≥ v0 (xs.getD (i + 1) [])))) then _ else rB false
   cases decide (v0 (xs.getD i []) ≥ v0 (xs.getD (i + 1) [])) <;> rfl
end Go.Proofs.YtaghmjcfaplkiaaGreat.Eng
/- half -/
