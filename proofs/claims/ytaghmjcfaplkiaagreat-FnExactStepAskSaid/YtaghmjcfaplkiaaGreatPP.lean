/- A point's and a certificate's place; a point of the world is within bounds. -/
import Derived.Test.YtaghmjcfaplkiaaGreatPA9
import Derived.Test.YtaghmjcfaplkiaaGreatPT
namespace Go.Proofs.YtaghmjcfaplkiaaGreat.Eng
open Go.RowKit
set_option linter.unusedVariables false
set_option linter.unusedSimpArgs false
set_option linter.unusedSectionVars false
set_option maxRecDepth 100000
variable [Sm]
theorem aef (xs : LL) (hx : xs.length ≤ 4611686018427387904) (v : Int) : MF.c xs v = rI (Gb xs fun x=>decide (v0 x = v)):=by
 rw [MF.eq]
 refine La (l0:=fun i=>MF.l0 xs v i) (n:=xs.length) (p:=fun i=>decide (v0 (xs.getD i []) = v)) ?_ fun i hi=>?_
 ·rw [MF.Fx,FO (qQb _)]; rfl
 ·rw [MF.Fx,FN hi,FU hi,FZ (by omega)]; rfl
theorem acN (xs : LL) (hx : xs.length ≤ 4611686018427387904) (v : Int) : SJ.c xs v = rI (Gb xs fun x=>decide (v0 x = v)):=by
 rw [SJ.eq,MT.eq]
 refine (qQq (fun o : O=>o.bind fun r0=>rI (r0.i 0)) (La (l0:=fun i=>MT.l0 xs v _ i) (n:=xs.length) (p:=fun i=>decide (v0 (xs.getD i []) = v)) ?_ fun i hi=>?_)).trans rfl
 ·rw [MT.Fx,FO (qQb _)]; rfl
 ·rw [MT.Fx,FN hi,FU hi,FZ (by omega),VU.eq]; rfl
theorem adP {eO : LL} (hc : Fy eO ≤ 1099511627776) {j : Nat} (hj : j < eO.length) (hb : ∀ i ∈ [3,6,7,9],(ul (eO.getD j []) i).length ≤ 1048576) : Vh (gl eO (j : Int) 3) (gl eO (j : Int) 5) (gl eO (j : Int) 6) (gl eO (j : Int) 7) (gl eO (j : Int) 9):=by
 have h5:=sub_lt hj 5
 exact ⟨hb 3 (by simp),by show Fy (ul (eO.getD j []) 5) ≤ _; omega,hb 6 (by simp),hb 7 (by simp),hb 9 (by simp)⟩
theorem ZH {eO : LL} (hp : WR Fv.ct 167 eO) (hc : Fy eO ≤ 1048576) {j : Nat} (hj : j < eO.length) : Vh (gl eO (j : Int) 3) (gl eO (j : Int) 5) (gl eO (j : Int) 6) (gl eO (j : Int) 7) (gl eO (j : Int) 9):=by
 refine adP (by omega) hj fun i hi=>?_
 have h1:=sub_lt hj i
 have h2:=FP (ul (eO.getD j []) i)
 omega
end Go.Proofs.YtaghmjcfaplkiaaGreat.Eng
/- half -/
