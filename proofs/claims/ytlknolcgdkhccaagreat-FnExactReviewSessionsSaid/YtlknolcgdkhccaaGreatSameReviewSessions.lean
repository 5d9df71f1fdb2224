/- ReviewSessions: the reference and the program give the same. -/
import Derived.Test.YtlknolcgdkhccaaGreatPA10
namespace Go.Proofs.YtlknolcgdkhccaaGreat.Eng
open Go.RowKit
set_option linter.unusedVariables false
set_option linter.unusedSimpArgs false
set_option linter.unusedSectionVars false
set_option maxRecDepth 100000
variable [Sm]
theorem same_ReviewSessions (p0 : List (List U)) (p1 : List (List U)) (p2 : Int) (p3 : List (List U)) (p4 : Int) (hp0 : WR tabs.ct 68 p0) (bp0 : cntRs p0 ≤ 1048576) (hp1 : WR tabs.ct 78 p1) (bp1 : cntRs p1 ≤ 1048576) (hp2 : -9223372036854775808 ≤ p2 ∧ p2 ≤ 9223372036854775807) (hp3 : WR tabs.ct 80 p3) (bp3 : cntRs p3 ≤ 1048576) (hp4 : -9223372036854775808 ≤ p4 ∧ p4 ≤ 9223372036854775807) : ∃ (r0 : List (List U)) (r1 : Int), spec_ReviewSessions.c p0 p1 p2 p3 p4 = some ⟨[[.lst r0], [.int r1]], []⟩ ∧ impl_ReviewSessions.c p0 p1 p2 p3 p4 = some ⟨[[.lst r0], [.int r1]], []⟩ ∧ WR tabs.ct 68 r0 ∧ cntRs r0 ≤ 1099511627776 := by
  have h1 := cntRs_length p0
  have h2 := cntRs_length p3
  obtain ⟨w, l⟩ := review_ok (toClose p1 p2 p3 p4) p0 p0.length 0 p0 0 (by omega) rfl hp0
  have hf := flat95 w
  refine ⟨_, (review (toClose p1 p2 p3 p4) p0 p0.length 0 p0 0).2, ?_, ?_, w, by omega⟩
  · rw [spec_ReviewSessions.eq, room_true (by omega) (by omega)]
    exact s_review (by omega) hp1 bp1 (by omega) p2 p4 p0.length 0 p0 0 (by omega) rfl (by omega) (by omega)
  · rw [impl_ReviewSessions.eq, room_true (by omega) (by omega)]
    exact i_review (by omega) hp1 bp1 (by omega) p2 p4 p0.length 0 p0 0 (by omega) rfl (by omega) (by omega)
end Go.Proofs.YtlknolcgdkhccaaGreat.Eng
