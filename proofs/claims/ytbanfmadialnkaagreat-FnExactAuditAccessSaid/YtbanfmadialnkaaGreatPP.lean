/- A point's and a certificate's place; a point of the world is within bounds. -/
import Derived.Test.YtbanfmadialnkaaGreatPA9
import Derived.Test.YtbanfmadialnkaaGreatPT
namespace Go.Proofs.YtbanfmadialnkaaGreat.Eng
open Go.RowKit
set_option linter.unusedVariables false
set_option linter.unusedSimpArgs false
set_option linter.unusedSectionVars false
set_option maxRecDepth 100000
variable [Sm]
theorem Zh {ee : LL} (hc : Da ee ≤ 1099511627776) {j : Nat} (hj : j < ee.length) (hb : ∀ i ∈ [3, 6, 7, 9], (ul (ee.getD j []) i).length ≤ 1048576) : JS (gl ee (j : Int) 3) (gl ee (j : Int) 5) (gl ee (j : Int) 6) (gl ee (j : Int) 7) (gl ee (j : Int) 9) := by
 have h5 := sub_lt hj 5
 exact ⟨hb 3 (by simp), by show Da (ul (ee.getD j []) 5) ≤ _; omega, hb 6 (by simp), hb 7 (by simp), hb 9 (by simp)⟩
theorem Uc {ee : LL} (hp : WR Db.ct 133 ee) (hc : Da ee ≤ 1048576) {j : Nat} (hj : j < ee.length) : JS (gl ee (j : Int) 3) (gl ee (j : Int) 5) (gl ee (j : Int) 6) (gl ee (j : Int) 7) (gl ee (j : Int) 9) := by
 refine Zh (by omega) hj fun i hi => ?_
 have h1 := sub_lt hj i
 have h2 := DA (ul (ee.getD j []) i)
 omega
end Go.Proofs.YtbanfmadialnkaaGreat.Eng
/- half -/
