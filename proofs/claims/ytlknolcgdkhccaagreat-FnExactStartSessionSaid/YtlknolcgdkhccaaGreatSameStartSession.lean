/- StartSession: the reference and the program give the same. -/
import Derived.Test.YtlknolcgdkhccaaGreatPA10
namespace Go.Proofs.YtlknolcgdkhccaaGreat.Eng
open Go.RowKit
set_option linter.unusedVariables false
set_option linter.unusedSimpArgs false
set_option linter.unusedSectionVars false
set_option maxRecDepth 100000
variable [Sm]
theorem same_StartSession (p0 : List (List U)) (p1_0 : Int) (p1_1 : Int) (p1_2 : Int) (p1_3 : List (List U)) (p1_4 : Int) (p1_5 : List (List U)) (p1_6 : List (List U)) (p1_7 : List (List U)) (p1_8 : Int) (p1_9 : List (List U)) (p2 : Int) (p3_0 : Int) (p3_1 : Int) (p3_2 : Int) (p3_3 : Int) (p3_4 : Int) (p3_5 : Int) (p4_0 : Int) (p4_1 : Int) (p4_2 : Int) (p4_3 : Int) (p4_4 : Int) (p4_5 : Int) (hp0 : WR tabs.ct 68 p0) (bp0 : cntRs p0 ≤ 1048576) (gp1 : Bd [p1_0, p1_1, p1_2, p1_4, p1_8]) (hp1_3 : WR tabs.ct 259 p1_3) (bp1_3 : cntRs p1_3 ≤ 1048576) (hp1_5 : WR tabs.ct 264 p1_5) (bp1_5 : cntRs p1_5 ≤ 1048576) (hp1_6 : WR tabs.ct 235 p1_6) (bp1_6 : cntRs p1_6 ≤ 1048576) (hp1_7 : WR tabs.ct 239 p1_7) (bp1_7 : cntRs p1_7 ≤ 1048576) (hp1_9 : WR tabs.ct 229 p1_9) (bp1_9 : cntRs p1_9 ≤ 1048576) (hp2 : -9223372036854775808 ≤ p2 ∧ p2 ≤ 9223372036854775807) (gp3 : Bd [p3_0, p3_1, p3_2, p3_3, p3_4, p3_5]) (gp4 : Bd [p4_0, p4_1, p4_2, p4_3, p4_4, p4_5]) : ∃ (r0 : List (List U)) (r1_0 : Int) (r1_1 : Int) (r1_2 : Int) (r1_3 : List (List U)) (r1_4 : Int) (r1_5 : List (List U)) (r1_6 : List (List U)) (r1_7 : List (List U)) (r1_8 : Int) (r1_9 : List (List U)) (r2 : Int), spec_StartSession.c p0 p1_0 p1_1 p1_2 p1_3 p1_4 p1_5 p1_6 p1_7 p1_8 p1_9 p2 p3_0 p3_1 p3_2 p3_3 p3_4 p3_5 p4_0 p4_1 p4_2 p4_3 p4_4 p4_5 = some ⟨[[.lst r0], [.int r1_0, .int r1_1, .int r1_2, .lst r1_3, .int r1_4, .lst r1_5, .lst r1_6, .lst r1_7, .int r1_8, .lst r1_9], [.int r2]], []⟩ ∧ impl_StartSession.c p0 p1_0 p1_1 p1_2 p1_3 p1_4 p1_5 p1_6 p1_7 p1_8 p1_9 p2 p3_0 p3_1 p3_2 p3_3 p3_4 p3_5 p4_0 p4_1 p4_2 p4_3 p4_4 p4_5 = some ⟨[[.lst r0], [.int r1_0, .int r1_1, .int r1_2, .lst r1_3, .int r1_4, .lst r1_5, .lst r1_6, .lst r1_7, .int r1_8, .lst r1_9], [.int r2]], []⟩ ∧ WR tabs.ct 68 r0 ∧ cntRs r0 ≤ 1099511627776 ∧ WR tabs.ct 259 r1_3 ∧ cntRs r1_3 ≤ 1099511627776 ∧ WR tabs.ct 264 r1_5 ∧ cntRs r1_5 ≤ 1099511627776 ∧ WR tabs.ct 235 r1_6 ∧ cntRs r1_6 ≤ 1099511627776 ∧ WR tabs.ct 239 r1_7 ∧ cntRs r1_7 ≤ 1099511627776 ∧ WR tabs.ct 229 r1_9 ∧ cntRs r1_9 ≤ 1099511627776 := by
  have h0 := cntRs_length p0
  have h1 := cntRs_length p1_3
  have h2 := cntRs_length p1_6
  have h3 := cntRs_length p1_7
  have h4 := cntRs_length p1_9
  have hp : PtOk p1_3 p1_5 p1_6 p1_7 p1_9 := ⟨by omega, by omega, by omega, by omega, by omega⟩
  obtain ⟨⟨w1, l1⟩, w2, l2⟩ := start_ok (k := p2) (ps := p1_3) (v := p1_4) (rs := p1_5) (s := p1_6) (rv := p1_7) (sy := p1_8) (c1 := p3_1) (c2 := p3_2) (c3 := p3_3) (c4 := p3_4) (c5 := p3_5) (p := p4_0) (d := p4_1) (g := p4_2) (a := p4_3) (o := p4_4) (now := p4_5) hp0 (by omega) (gp1 p1_0 (by simp)) hp1_9 (by omega) (gp3 p3_0 (by simp))
  have f1 := flat95 w1
  have f2 := flat296 w2
  refine ⟨_, _, _, _, _, _, _, _, _, _, _, _, s_start p0 (by omega) hp _ _ _ _ _ _ _ _ _ _ _ _ _, i_start p0 (by omega) hp _ _ _ _ _ _ _ _ _ _ _ _ _, w1, by omega, hp1_3, by omega, ?_, ?_, hp1_6, by omega, hp1_7, by omega, w2, by omega⟩
  · rw [copyR_id hp1_5]; exact hp1_5
  · rw [copyR_id hp1_5]; omega
end Go.Proofs.YtlknolcgdkhccaaGreat.Eng
