/- Certificates of a world. -/
import Derived.Test.YtbanfmadialnkaaGreatPP
namespace Go.Proofs.YtbanfmadialnkaaGreat.Eng
open Go.RowKit
set_option linter.unusedVariables false
set_option linter.unusedSimpArgs false
set_option linter.unusedSectionVars false
set_option maxRecDepth 100000
variable [Sm]
/-- A part of a certificate at a place, of none elsewhere. -/
def cf (cs : LL) (c : Int) (j : Nat) : Int := bif decide (c < 0) then 0 else gi cs c j
theorem aat (a0 : Int) (a1 a2 a3 a4 : List (List U)) (a5 : Int) (a6 a7 a8 a9 : List (List U)) (Dl : Int) (Dn a12 Du Dw Dx Dy : List (List U)) (DD : Int) (Dz DA : List (List U)) (h : a6.length ≤ 1048576) (n : Int) : Qg.c a0 a1 a2 a3 a4 a5 a6 a7 a8 a9 Dl Dn a12 Du Dw Dx Dy DD Dz DA n = some ⟨[[.int (cf a6 (DC a6 (fun y => decide (v0 y = n))) 0), .int (cf a6 (DC a6 (fun y => decide (v0 y = n))) 1), .int (cf a6 (DC a6 (fun y => decide (v0 y = n))) 2), .int (cf a6 (DC a6 (fun y => decide (v0 y = n))) 3), .int (cf a6 (DC a6 (fun y => decide (v0 y = n))) 4), .int (cf a6 (DC a6 (fun y => decide (v0 y = n))) 5)]], []⟩ := by
 rw [Qg.eq, aaC a6 (by omega)]
 show (bif decide (DC a6 (fun y => decide (v0 y = n)) < 0) then _ else Cu (dk (DC a6 (fun y => decide (v0 y = n))) a6.length) _) = _
 rcases Md a6 (fun y => decide (v0 y = n)) with ⟨hj, _⟩ | ⟨j, hj, eY, _⟩
 ·rw [hj]; rfl
 ·rw [hj, DE eY]; unfold cf; rw [ED (by omega)]; rfl
theorem Yy (a0 : Int) (a1 a2 a3 a4 : List (List U)) (a5 : Int) (a6 a7 a8 a9 : List (List U)) (Dl : Int) (Dn a12 Du Dw Dx Dy : List (List U)) (DD : Int) (Dz DA : List (List U)) (h : a6.length ≤ 1048576) (n : Int) : Oa.c a0 a1 a2 a3 a4 a5 a6 a7 a8 a9 Dl Dn a12 Du Dw Dx Dy DD Dz DA n = some ⟨[[.int (cf a6 (DC a6 (fun y => decide (v0 y = n))) 0), .int (cf a6 (DC a6 (fun y => decide (v0 y = n))) 1), .int (cf a6 (DC a6 (fun y => decide (v0 y = n))) 2), .int (cf a6 (DC a6 (fun y => decide (v0 y = n))) 3), .int (cf a6 (DC a6 (fun y => decide (v0 y = n))) 4), .int (cf a6 (DC a6 (fun y => decide (v0 y = n))) 5)]], []⟩ := by
 rw [Oa.eq, YH a6 (by omega)]
 show (bif decide (DC a6 (fun y => decide (v0 y = n)) < 0) then _ else Cu (dk (DC a6 (fun y => decide (v0 y = n))) a6.length) _) = _
 rcases Md a6 (fun y => decide (v0 y = n)) with ⟨hj, _⟩ | ⟨j, hj, eY, _⟩
 ·rw [hj]; rfl
 ·rw [hj, DE eY]; unfold cf; rw [ED (by omega)]; rfl
end Go.Proofs.YtbanfmadialnkaaGreat.Eng
/- half -/
