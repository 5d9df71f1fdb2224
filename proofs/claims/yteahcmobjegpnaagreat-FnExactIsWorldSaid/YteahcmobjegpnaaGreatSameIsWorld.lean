/- IsWorld: the reference and the program give the same. -/
import Derived.Test.YteahcmobjegpnaaGreatH
import Derived.Test.YteahcmobjegpnaaGreatPC4
namespace Go.Proofs.YteahcmobjegpnaaGreat.Eng
open Go.RowKit
set_option linter.unusedVariables false
set_option linter.unusedSimpArgs false
set_option linter.unusedSectionVars false
set_option maxRecDepth 100000
variable [Sm]
theorem same_IsWorld (p0_0 : Int) (p0_1 : List (List U)) (p0_2 : List (List U)) (p0_3 : List (List U)) (p0_4 : List (List U)) (p0_5 : Int) (p0_6 : List (List U)) (p0_7 : List (List U)) (p0_8 : List (List U)) (p0_9 : List (List U)) (p0_10 : Int) (p0_11 : List (List U)) (p0_12 : List (List U)) (p0_13 : List (List U)) (p0_14 : List (List U)) (p0_15 : List (List U)) (p0_16 : List (List U)) (p0_17 : Int) (p0_18 : List (List U)) (p0_19 : List (List U)) (hp0_1 : WR tabs.ct 255 p0_1) (bp0_1 : cntRs p0_1 ≤ 1048576) (hp0_2 : WR tabs.ct 84 p0_2) (bp0_2 : cntRs p0_2 ≤ 1048576) (hp0_3 : WR tabs.ct 246 p0_3) (bp0_3 : cntRs p0_3 ≤ 1048576) (hp0_4 : WR tabs.ct 249 p0_4) (bp0_4 : cntRs p0_4 ≤ 1048576) (hp0_6 : WR tabs.ct 160 p0_6) (bp0_6 : cntRs p0_6 ≤ 1048576) (hp0_7 : WR tabs.ct 87 p0_7) (bp0_7 : cntRs p0_7 ≤ 1048576) (hp0_8 : WR tabs.ct 4 p0_8) (bp0_8 : cntRs p0_8 ≤ 1048576) (hp0_9 : WR tabs.ct 89 p0_9) (bp0_9 : cntRs p0_9 ≤ 1048576) (hp0_11 : WR tabs.ct 166 p0_11) (bp0_11 : cntRs p0_11 ≤ 1048576) (hp0_12 : WR tabs.ct 168 p0_12) (bp0_12 : cntRs p0_12 ≤ 1048576) (hp0_13 : WR tabs.ct 193 p0_13) (bp0_13 : cntRs p0_13 ≤ 1048576) (hp0_14 : WR tabs.ct 180 p0_14) (bp0_14 : cntRs p0_14 ≤ 1048576) (hp0_15 : WR tabs.ct 3 p0_15) (bp0_15 : cntRs p0_15 ≤ 1048576) (hp0_16 : WR tabs.ct 3 p0_16) (bp0_16 : cntRs p0_16 ≤ 1048576) (hp0_18 : WR tabs.ct 170 p0_18) (bp0_18 : cntRs p0_18 ≤ 1048576) (hp0_19 : WR tabs.ct 177 p0_19) (bp0_19 : cntRs p0_19 ≤ 1048576) : ∃ (r0 : Bool), spec_IsWorld.c p0_0 p0_1 p0_2 p0_3 p0_4 p0_5 p0_6 p0_7 p0_8 p0_9 p0_10 p0_11 p0_12 p0_13 p0_14 p0_15 p0_16 p0_17 p0_18 p0_19 = some ⟨[[.bool r0]], []⟩ ∧ impl_IsWorld.c p0_0 p0_1 p0_2 p0_3 p0_4 p0_5 p0_6 p0_7 p0_8 p0_9 p0_10 p0_11 p0_12 p0_13 p0_14 p0_15 p0_16 p0_17 p0_18 p0_19 = some ⟨[[.bool r0]], []⟩ := by
  have h := wd_ok hp0_7 hp0_18 bp0_1 bp0_2 bp0_3 bp0_4 bp0_6 bp0_7 bp0_9 bp0_11 bp0_12 bp0_13 bp0_14 bp0_15 bp0_16 bp0_18 bp0_19
  exact ⟨_, s_world _ _ _ _ _ _ _ _ _ _ _ _ _ _ _ _ _ _ _ _ h, i_world _ _ _ _ _ _ _ _ _ _ _ _ _ _ _ _ _ _ _ _ h⟩
end Go.Proofs.YteahcmobjegpnaaGreat.Eng
