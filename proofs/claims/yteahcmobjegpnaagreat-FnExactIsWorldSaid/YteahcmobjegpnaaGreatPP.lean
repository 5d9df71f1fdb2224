/- A point's and a certificate's place; a point of the world is within bounds. -/
import Derived.Test.YteahcmobjegpnaaGreatPA9
import Derived.Test.YteahcmobjegpnaaGreatPT
namespace Go.Proofs.YteahcmobjegpnaaGreat.Eng
open Go.RowKit
set_option linter.unusedVariables false
set_option linter.unusedSimpArgs false
set_option linter.unusedSectionVars false
set_option maxRecDepth 100000
variable [Sm]
theorem pt_ok {pts : LL} (hc : cntRs pts ≤ 1099511627776) {j : Nat} (hj : j < pts.length) (hb : ∀ i ∈ [3, 6, 7, 9], (ul (pts.getD j []) i).length ≤ 1048576) : PtOk (gl pts (j : Int) 3) (gl pts (j : Int) 5) (gl pts (j : Int) 6) (gl pts (j : Int) 7) (gl pts (j : Int) 9) := by
  have h5 := sub_lt hj 5
  exact ⟨hb 3 (by simp), by show cntRs (ul (pts.getD j []) 5) ≤ _; omega, hb 6 (by simp), hb 7 (by simp), hb 9 (by simp)⟩
theorem pts_ok {pts : LL} (hp : WR tabs.ct 87 pts) (hc : cntRs pts ≤ 1048576) {j : Nat} (hj : j < pts.length) : PtOk (gl pts (j : Int) 3) (gl pts (j : Int) 5) (gl pts (j : Int) 6) (gl pts (j : Int) 7) (gl pts (j : Int) 9) := by
  refine pt_ok (by omega) hj fun i hi => ?_
  have h1 := sub_lt hj i
  have h2 := cntRs_length (ul (pts.getD j []) i)
  omega
end Go.Proofs.YteahcmobjegpnaaGreat.Eng
