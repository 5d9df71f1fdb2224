/- Certificates of a world. -/
import Derived.Test.YtaghmjcfaplkiaaGreatPP
namespace Go.Proofs.YtaghmjcfaplkiaaGreat.Eng
open Go.RowKit
set_option linter.unusedVariables false
set_option linter.unusedSimpArgs false
set_option linter.unusedSectionVars false
set_option maxRecDepth 100000
variable [Sm]
/-- A part of a certificate at a place,of none elsewhere. -/
def cf (cs : LL) (c : Int) (j : Nat) : Int:=bif decide (c < 0) then 0 else gi cs c j
theorem ad6 (a0 : Int) (a1 a2 a3 a4 : List (List U)) (a5 : Int) (a6 a7 a8 a9 : List (List U)) (FB : Int) (FA a12 FD FE FG FI : List (List U)) (FL : Int) (FJ FK : List (List U)) (h : a6.length ≤ 1048576) (n : Int) : PW.c a0 a1 a2 a3 a4 a5 a6 a7 a8 a9 FB FA a12 FD FE FG FI FL FJ FK n = some ⟨[[.int (cf a6 (Gb a6 (fun y=>decide (v0 y = n))) 0),.int (cf a6 (Gb a6 (fun y=>decide (v0 y = n))) 1),.int (cf a6 (Gb a6 (fun y=>decide (v0 y = n))) 2),.int (cf a6 (Gb a6 (fun y=>decide (v0 y = n))) 3),.int (cf a6 (Gb a6 (fun y=>decide (v0 y = n))) 4),.int (cf a6 (Gb a6 (fun y=>decide (v0 y = n))) 5)]],[]⟩:=by
 rw [PW.eq,aef a6 (by omega)]
 show (bif decide (Gb a6 (fun y=>decide (v0 y = n)) < 0) then _ else EK (dE (Gb a6 (fun y=>decide (v0 y = n))) a6.length) _) = _
 rcases NK a6 (fun y=>decide (v0 y = n)) with ⟨hj,_⟩ | ⟨j,hj,fH,_⟩
 ·rw [hj]; rfl
 ·rw [hj,FU fH]; unfold cf; rw [Ho (by omega)]; rfl
theorem acE (a0 : Int) (a1 a2 a3 a4 : List (List U)) (a5 : Int) (a6 a7 a8 a9 : List (List U)) (FB : Int) (FA a12 FD FE FG FI : List (List U)) (FL : Int) (FJ FK : List (List U)) (h : a6.length ≤ 1048576) (n : Int) : Po.c a0 a1 a2 a3 a4 a5 a6 a7 a8 a9 FB FA a12 FD FE FG FI FL FJ FK n = some ⟨[[.int (cf a6 (Gb a6 (fun y=>decide (v0 y = n))) 0),.int (cf a6 (Gb a6 (fun y=>decide (v0 y = n))) 1),.int (cf a6 (Gb a6 (fun y=>decide (v0 y = n))) 2),.int (cf a6 (Gb a6 (fun y=>decide (v0 y = n))) 3),.int (cf a6 (Gb a6 (fun y=>decide (v0 y = n))) 4),.int (cf a6 (Gb a6 (fun y=>decide (v0 y = n))) 5)]],[]⟩:=by
 rw [Po.eq,acN a6 (by omega)]
 show (bif decide (Gb a6 (fun y=>decide (v0 y = n)) < 0) then _ else EK (dE (Gb a6 (fun y=>decide (v0 y = n))) a6.length) _) = _
 rcases NK a6 (fun y=>decide (v0 y = n)) with ⟨hj,_⟩ | ⟨j,hj,fH,_⟩
 ·rw [hj]; rfl
 ·rw [hj,FU fH]; unfold cf; rw [Ho (by omega)]; rfl
end Go.Proofs.YtaghmjcfaplkiaaGreat.Eng
/- half -/
