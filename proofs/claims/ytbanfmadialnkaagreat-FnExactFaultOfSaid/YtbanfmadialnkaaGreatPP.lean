/- A point's and a certificate's place; a point of the world is within bounds. -/
import Derived.Test.YtbanfmadialnkaaGreatPA9
import Derived.Test.YtbanfmadialnkaaGreatPT
namespace Go.Proofs.YtbanfmadialnkaaGreat.Eng
open Go.RowKit
set_option linter.unusedVariables false
set_option linter.unusedSimpArgs false
set_option linter.unusedSectionVars false
set_option maxRecDepth 100000
variable [Sm]
theorem Tf {cQ : LL} (hc : ai cQ ≤ 1099511627776) {j : Nat} (hj : j < cQ.length) (hb : ∀ i ∈ [3, 6, 7, 9], (ul (cQ.getD j []) i).length ≤ 1048576) : qX (gl cQ (j : Int) 3) (gl cQ (j : Int) 5) (gl cQ (j : Int) 6) (gl cQ (j : Int) 7) (gl cQ (j : Int) 9) := by
 have h5 := sub_lt hj 5
 exact ⟨hb 3 (by simp), by show ai (ul (cQ.getD j []) 5) ≤ _; omega, hb 6 (by simp), hb 7 (by simp), hb 9 (by simp)⟩
theorem Hy {cQ : LL} (hp : WR ao.ct 133 cQ) (hc : ai cQ ≤ 1048576) {j : Nat} (hj : j < cQ.length) : qX (gl cQ (j : Int) 3) (gl cQ (j : Int) 5) (gl cQ (j : Int) 6) (gl cQ (j : Int) 7) (gl cQ (j : Int) 9) := by
 refine Tf (by omega) hj fun i hi => ?_
 have h1 := sub_lt hj i
 have h2 := bl (ul (cQ.getD j []) i)
 omega
end Go.Proofs.YtbanfmadialnkaaGreat.Eng
/- half -/
