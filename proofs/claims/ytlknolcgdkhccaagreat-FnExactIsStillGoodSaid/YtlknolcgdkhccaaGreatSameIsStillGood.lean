/- IsStillGood: the reference and the program give the same. -/
import Derived.Test.YtlknolcgdkhccaaGreatH
import Derived.Test.YtlknolcgdkhccaaGreatPA9
namespace Go.Proofs.YtlknolcgdkhccaaGreat.Eng
open Go.RowKit
set_option linter.unusedVariables false
set_option linter.unusedSimpArgs false
set_option linter.unusedSectionVars false
set_option maxRecDepth 100000
variable [Sm]
theorem same_IsStillGood (p0_0 : Int) (p0_1 : Int) (p0_2 : Int) (p0_3 : Int) (p0_4 : Int) (p0_5 : Int) (p0_6 : Int) (p0_7 : Int) (p0_8 : Int) (p0_9 : Bool) (p1_0 : Int) (p1_1 : Int) (p1_2 : Int) (p1_3 : List (List U)) (p1_4 : Int) (p1_5 : List (List U)) (p1_6 : List (List U)) (p1_7 : List (List U)) (p1_8 : Int) (p1_9 : List (List U)) (p2 : Int) (p3_0 : Int) (p3_1 : Int) (p3_2 : Int) (p3_3 : Int) (p3_4 : Int) (p3_5 : Int) (p4 : Int) (hp1_3 : WR tabs.ct 259 p1_3) (bp1_3 : cntRs p1_3 ≤ 1048576) (hp1_5 : WR tabs.ct 264 p1_5) (bp1_5 : cntRs p1_5 ≤ 1048576) (hp1_6 : WR tabs.ct 235 p1_6) (bp1_6 : cntRs p1_6 ≤ 1048576) (hp1_7 : WR tabs.ct 239 p1_7) (bp1_7 : cntRs p1_7 ≤ 1048576) (hp1_9 : WR tabs.ct 229 p1_9) (bp1_9 : cntRs p1_9 ≤ 1048576) (hp2 : -9223372036854775808 ≤ p2 ∧ p2 ≤ 9223372036854775807) (hp4 : -9223372036854775808 ≤ p4 ∧ p4 ≤ 9223372036854775807) : ∃ (r0 : Bool), spec_IsStillGood.c p0_0 p0_1 p0_2 p0_3 p0_4 p0_5 p0_6 p0_7 p0_8 p0_9 p1_0 p1_1 p1_2 p1_3 p1_4 p1_5 p1_6 p1_7 p1_8 p1_9 p2 p3_0 p3_1 p3_2 p3_3 p3_4 p3_5 p4 = some ⟨[[.bool r0]], []⟩ ∧ impl_IsStillGood.c p0_0 p0_1 p0_2 p0_3 p0_4 p0_5 p0_6 p0_7 p0_8 p0_9 p1_0 p1_1 p1_2 p1_3 p1_4 p1_5 p1_6 p1_7 p1_8 p1_9 p2 p3_0 p3_1 p3_2 p3_3 p3_4 p3_5 p4 = some ⟨[[.bool r0]], []⟩ := by
  have h1 := cntRs_length p1_3
  have h2 := cntRs_length p1_6
  have h3 := cntRs_length p1_7
  have h4 := cntRs_length p1_9
  have hp : PtOk p1_3 p1_5 p1_6 p1_7 p1_9 := ⟨by omega, by omega, by omega, by omega, by omega⟩
  exact ⟨_, s_good hp _ _ _ _ _ _ _ _ _ _ _ _ _ _ _ _ _ _, i_good hp _ _ _ _ _ _ _ _ _ _ _ _ _ _ _ _ _ _⟩
end Go.Proofs.YtlknolcgdkhccaaGreat.Eng
