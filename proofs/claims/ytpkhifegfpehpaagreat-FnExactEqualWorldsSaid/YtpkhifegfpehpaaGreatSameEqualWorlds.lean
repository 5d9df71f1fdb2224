/- EqualWorlds: the reference and the program give the same. -/
import Derived.Test.YtpkhifegfpehpaaGreatPQ6
namespace Go.Proofs.YtpkhifegfpehpaaGreat.Eng
open Go.RowKit
section
open Classical
set_option linter.unusedVariables false
set_option linter.unusedSimpArgs false
set_option maxRecDepth 100000
theorem same_EqualWorlds (p0_0 : Int) (p0_1 : List (List U)) (p0_2 : List (List U)) (p0_3 : List (List U)) (p0_4 : List (List U)) (p0_5 : Int) (p0_6 : List (List U)) (p0_7 : List (List U)) (p0_8 : List (List U)) (p0_9 : List (List U)) (p0_10 : Int) (p0_11 : List (List U)) (p0_12 : List (List U)) (p0_13 : List (List U)) (p0_14 : List (List U)) (p0_15 : List (List U)) (p0_16 : List (List U)) (p0_17 : Int) (p0_18 : List (List U)) (p0_19 : List (List U)) (p1_0 : Int) (p1_1 : List (List U)) (p1_2 : List (List U)) (p1_3 : List (List U)) (p1_4 : List (List U)) (p1_5 : Int) (p1_6 : List (List U)) (p1_7 : List (List U)) (p1_8 : List (List U)) (p1_9 : List (List U)) (p1_10 : Int) (p1_11 : List (List U)) (p1_12 : List (List U)) (p1_13 : List (List U)) (p1_14 : List (List U)) (p1_15 : List (List U)) (p1_16 : List (List U)) (p1_17 : Int) (p1_18 : List (List U)) (p1_19 : List (List U)) (hp0_1 : WR tabs.ct 220 p0_1) (bp0_1 : cntRs p0_1 ≤ 1048576) (hp0_2 : WR tabs.ct 135 p0_2) (bp0_2 : cntRs p0_2 ≤ 1048576) (hp0_3 : WR tabs.ct 235 p0_3) (bp0_3 : cntRs p0_3 ≤ 1048576) (hp0_4 : WR tabs.ct 209 p0_4) (bp0_4 : cntRs p0_4 ≤ 1048576) (hp0_6 : WR tabs.ct 69 p0_6) (bp0_6 : cntRs p0_6 ≤ 1048576) (hp0_7 : WR tabs.ct 138 p0_7) (bp0_7 : cntRs p0_7 ≤ 1048576) (hp0_8 : WR tabs.ct 4 p0_8) (bp0_8 : cntRs p0_8 ≤ 1048576) (hp0_9 : WR tabs.ct 109 p0_9) (bp0_9 : cntRs p0_9 ≤ 1048576) (hp0_11 : WR tabs.ct 143 p0_11) (bp0_11 : cntRs p0_11 ≤ 1048576) (hp0_12 : WR tabs.ct 183 p0_12) (bp0_12 : cntRs p0_12 ≤ 1048576) (hp0_13 : WR tabs.ct 145 p0_13) (bp0_13 : cntRs p0_13 ≤ 1048576) (hp0_14 : WR tabs.ct 124 p0_14) (bp0_14 : cntRs p0_14 ≤ 1048576) (hp0_15 : WR tabs.ct 3 p0_15) (bp0_15 : cntRs p0_15 ≤ 1048576) (hp0_16 : WR tabs.ct 3 p0_16) (bp0_16 : cntRs p0_16 ≤ 1048576) (hp0_18 : WR tabs.ct 119 p0_18) (bp0_18 : cntRs p0_18 ≤ 1048576) (hp0_19 : WR tabs.ct 149 p0_19) (bp0_19 : cntRs p0_19 ≤ 1048576) (hp1_1 : WR tabs.ct 220 p1_1) (bp1_1 : cntRs p1_1 ≤ 1048576) (hp1_2 : WR tabs.ct 135 p1_2) (bp1_2 : cntRs p1_2 ≤ 1048576) (hp1_3 : WR tabs.ct 235 p1_3) (bp1_3 : cntRs p1_3 ≤ 1048576) (hp1_4 : WR tabs.ct 209 p1_4) (bp1_4 : cntRs p1_4 ≤ 1048576) (hp1_6 : WR tabs.ct 69 p1_6) (bp1_6 : cntRs p1_6 ≤ 1048576) (hp1_7 : WR tabs.ct 138 p1_7) (bp1_7 : cntRs p1_7 ≤ 1048576) (hp1_8 : WR tabs.ct 4 p1_8) (bp1_8 : cntRs p1_8 ≤ 1048576) (hp1_9 : WR tabs.ct 109 p1_9) (bp1_9 : cntRs p1_9 ≤ 1048576) (hp1_11 : WR tabs.ct 143 p1_11) (bp1_11 : cntRs p1_11 ≤ 1048576) (hp1_12 : WR tabs.ct 183 p1_12) (bp1_12 : cntRs p1_12 ≤ 1048576) (hp1_13 : WR tabs.ct 145 p1_13) (bp1_13 : cntRs p1_13 ≤ 1048576) (hp1_14 : WR tabs.ct 124 p1_14) (bp1_14 : cntRs p1_14 ≤ 1048576) (hp1_15 : WR tabs.ct 3 p1_15) (bp1_15 : cntRs p1_15 ≤ 1048576) (hp1_16 : WR tabs.ct 3 p1_16) (bp1_16 : cntRs p1_16 ≤ 1048576) (hp1_18 : WR tabs.ct 119 p1_18) (bp1_18 : cntRs p1_18 ≤ 1048576) (hp1_19 : WR tabs.ct 149 p1_19) (bp1_19 : cntRs p1_19 ≤ 1048576) : ∃ (r0 : Bool), spec_EqualWorlds.c dn p0_0 p0_1 p0_2 p0_3 p0_4 p0_5 p0_6 p0_7 p0_8 p0_9 p0_10 p0_11 p0_12 p0_13 p0_14 p0_15 p0_16 p0_17 p0_18 p0_19 p1_0 p1_1 p1_2 p1_3 p1_4 p1_5 p1_6 p1_7 p1_8 p1_9 p1_10 p1_11 p1_12 p1_13 p1_14 p1_15 p1_16 p1_17 p1_18 p1_19 = some ⟨[[.bool r0]], []⟩ ∧ impl_EqualWorlds.c dn p0_0 p0_1 p0_2 p0_3 p0_4 p0_5 p0_6 p0_7 p0_8 p0_9 p0_10 p0_11 p0_12 p0_13 p0_14 p0_15 p0_16 p0_17 p0_18 p0_19 p1_0 p1_1 p1_2 p1_3 p1_4 p1_5 p1_6 p1_7 p1_8 p1_9 p1_10 p1_11 p1_12 p1_13 p1_14 p1_15 p1_16 p1_17 p1_18 p1_19 = some ⟨[[.bool r0]], []⟩ := by
  refine ⟨decide (p0_17 = p1_17 ∧ p0_15 = p1_15 ∧ p0_16 = p1_16 ∧ p0_0 = p1_0 ∧ p0_10 = p1_10 ∧ (p0_1 = p1_1 ∧ p0_2 = p1_2 ∧ p0_3 = p1_3 ∧ p0_4 = p1_4 ∧ p0_5 = p1_5 ∧ p0_6 = p1_6) ∧ p0_7 = p1_7 ∧ p0_9 = p1_9 ∧ p0_12 = p1_12 ∧ p0_18 = p1_18 ∧ (p0_8 = p1_8 ∧ p0_11 = p1_11 ∧ p0_13 = p1_13 ∧ p0_14 = p1_14 ∧ p0_19 = p1_19)), ?_, ?_⟩
  · rw [spec_EqualWorlds.eq fix]
    simp (disch := assumption) only [Option.bind_some, Ret.u_mk, List.getD_cons_zero, U.toBool_bool, eq_spec_EqualInts, eq_spec_EqualCenters, eq_spec_l36Points, eq_spec_l36Trails, eq_spec_EqualGrants, eq_spec_EqualEmergencies, eq_spec_l36Small]
    by_cases e17 : p0_17 = p1_17
    rotate_left
    · simp [e17]
    by_cases e15 : p0_15 = p1_15
    rotate_left
    · simp [e15]
    by_cases e16 : p0_16 = p1_16
    rotate_left
    · simp [e16]
    by_cases e0 : p0_0 = p1_0
    rotate_left
    · simp [e0]
    by_cases e10 : p0_10 = p1_10
    rotate_left
    · simp [e10]
    by_cases e1 : p0_1 = p1_1
    rotate_left
    · simp [e1]
    by_cases e2 : p0_2 = p1_2
    rotate_left
    · simp [e2]
    by_cases e3 : p0_3 = p1_3
    rotate_left
    · simp [e3]
    by_cases e4 : p0_4 = p1_4
    rotate_left
    · simp [e4]
    by_cases e5 : p0_5 = p1_5
    rotate_left
    · simp [e5]
    by_cases e6 : p0_6 = p1_6
    rotate_left
    · simp [e6]
    by_cases e7 : p0_7 = p1_7
    rotate_left
    · simp [e7]
    by_cases e9 : p0_9 = p1_9
    rotate_left
    · simp [e9]
    by_cases e12 : p0_12 = p1_12
    rotate_left
    · simp [e12]
    by_cases e18 : p0_18 = p1_18
    rotate_left
    · simp [e18]
    by_cases e8 : p0_8 = p1_8
    rotate_left
    · simp [e8]
    by_cases e11 : p0_11 = p1_11
    rotate_left
    · simp [e11]
    by_cases e13 : p0_13 = p1_13
    rotate_left
    · simp [e13]
    by_cases e14 : p0_14 = p1_14
    rotate_left
    · simp [e14]
    by_cases e19 : p0_19 = p1_19
    rotate_left
    · simp [e19]
    simp [e17, e15, e16, e0, e10, e1, e2, e3, e4, e5, e6, e7, e9, e12, e18, e8, e11, e13, e14, e19]
  · rw [impl_EqualWorlds.eq fix]
    simp (disch := assumption) only [Option.bind_some, Ret.u_mk, List.getD_cons_zero, U.toBool_bool, eq_slices_Equal, eq_impl_EqualCenters, eq_slices_EqualFunc, eq_slices_Equal_1, eq_slices_EqualFunc_1, eq_slices_Equal_2, eq_impl_EqualGrants, eq_slices_Equal_3, eq_slices_Equal_4, eq_impl_EqualEmergencies, eq_slices_Equal_5]
    by_cases e17 : p0_17 = p1_17
    rotate_left
    · simp [e17]
    by_cases e15 : p0_15 = p1_15
    rotate_left
    · simp [e15]
    by_cases e16 : p0_16 = p1_16
    rotate_left
    · simp [e16]
    by_cases e0 : p0_0 = p1_0
    rotate_left
    · simp [e0]
    by_cases e10 : p0_10 = p1_10
    rotate_left
    · simp [e10]
    by_cases e1 : p0_1 = p1_1
    rotate_left
    · simp [e1]
    by_cases e2 : p0_2 = p1_2
    rotate_left
    · simp [e2]
    by_cases e3 : p0_3 = p1_3
    rotate_left
    · simp [e3]
    by_cases e4 : p0_4 = p1_4
    rotate_left
    · simp [e4]
    by_cases e5 : p0_5 = p1_5
    rotate_left
    · simp [e5]
    by_cases e6 : p0_6 = p1_6
    rotate_left
    · simp [e6]
    by_cases e7 : p0_7 = p1_7
    rotate_left
    · simp [e7]
    by_cases e9 : p0_9 = p1_9
    rotate_left
    · simp [e9]
    by_cases e12 : p0_12 = p1_12
    rotate_left
    · simp [e12]
    by_cases e18 : p0_18 = p1_18
    rotate_left
    · simp [e18]
    by_cases e8 : p0_8 = p1_8
    rotate_left
    · simp [e8]
    by_cases e11 : p0_11 = p1_11
    rotate_left
    · simp [e11]
    by_cases e13 : p0_13 = p1_13
    rotate_left
    · simp [e13]
    by_cases e14 : p0_14 = p1_14
    rotate_left
    · simp [e14]
    by_cases e19 : p0_19 = p1_19
    rotate_left
    · simp [e19]
    simp [e17, e15, e16, e0, e10, e1, e2, e3, e4, e5, e6, e7, e9, e12, e18, e8, e11, e13, e14, e19]
end
end Go.Proofs.YtpkhifegfpehpaaGreat.Eng
