/- Emergencies: what the reference's and the program's functions compute. -/
import Derived.Test.YtaghmjcfaplkiaaGreatPA2
import Derived.Test.YtaghmjcfaplkiaaGreatH
import Derived.Test.YtaghmjcfaplkiaaGreatPEm
namespace Go.Proofs.YtaghmjcfaplkiaaGreat.Eng
open Go.RowKit
set_option linter.unusedVariables false
set_option linter.unusedSimpArgs false
set_option linter.unusedSectionVars false
set_option maxRecDepth 100000
variable [Sm]
/- instances too -/
def RW (a b : Int) : Int:=if within a 0 10000 && within b 0 10000 then min (a + b) 10000 else 0
def udr (xs ys : List (List U)) : Bool:=xs.all fun x=>has ys (v0 x)
/-- Unsettled,of a person. -/
def adK (p : Int) (x : List U) : Bool:=decide ((x.getD 1 U0).toInt = p) && !(x.getD 5 U0).toBool
/-- Whether one is behind the one before. -/
def aaO (xs : List (List U)) (i : Nat) : Bool:=!(decide (0 < i) && decide (v0 (xs.getD (i - 1) []) ≥ v0 (xs.getD i [])))
def Yo (xs : List (List U)) (lo hi : Int) : Bool:=(List.range xs.length).all fun i=>within (v0 (xs.getD i [])) lo hi && aaO xs i
def ads (a b : List (List U)) (s : Int) : Bool:=Yo a 10 19 && (Yo b 40 49 && within s 0 10)
/-- What is asked of one emergency,but for the debts. -/
def abt (ps os : List (List U)) (sp : Int) (xs : List (List U)) (i : Nat) : Bool :=
 decide (v0 (xs.getD i []) = ((i + 1 : Nat) : Int)) && (has ps ((xs.getD i []).getD 1 U0).toInt && (within ((xs.getD i []).getD 2 U0).toInt 0 10000 && (!(decide (0 < i) && decide (((xs.getD (i - 1) []).getD 2 U0).toInt > ((xs.getD i []).getD 2 U0).toInt)) && (decide (((xs.getD i []).getD 3 U0).toInt = RW ((xs.getD i []).getD 2 U0).toInt sp) && udr ((xs.getD i []).getD 4 U0).bB os))))
def Yn (ps os : List (List U)) (sp : Int) (xs : List (List U)) : Bool:=((List.range xs.length).all fun i=>abt ps os sp xs i && (((xs.getD i []).getD 5 U0).toBool || decide ((xs.take i).countP (adK ((xs.getD i []).getD 1 U0).toInt) = 0))) && (ads ps os sp && decide ((xs.length : Int) ≤ 8))
end Go.Proofs.YtaghmjcfaplkiaaGreat.Eng
/- half -/
