/- Policies, compared. -/
import Derived.Test.YtpkhifegfpehpaaGreatPQ3
namespace Go.Proofs.YtpkhifegfpehpaaGreat.Eng
open Go.RowKit
section
open Classical
set_option linter.unusedVariables false
set_option linter.unusedSimpArgs false
set_option maxRecDepth 100000
theorem eq_spec_EqualPolicies (c0 d0 : Int) (c1 d1 : List (List U)) (hc1 : WR tabs.ct 268 c1) (hd1 : WR tabs.ct 268 d1) : spec_EqualPolicies.c dn c0 c1 d0 d1 = rB (decide (c0 = d0 ∧ c1 = d1)) := by
  rw [spec_EqualPolicies.eq fix]
  by_cases e0 : c0 = d0
  rotate_left
  · simp [e0]
  by_cases hl : c1.length = d1.length
  · rw [decide_eq_true e0, decide_eq_true (by omega : (c1.length : Int) = (d1.length : Int))]
    refine (eq_spec_EqualPolicies_l0 c0 c1 d0 d1 hl hc1 hd1 (R := rB true) ?_).trans (by simp only [e0, true_and]; exact bif_dec _ _)
    rw [spec_EqualPolicies.l0_eq fix, not_lt_nat (Nat.le_refl _)]; rfl
  · rw [decide_eq_true e0, decide_eq_false (by omega : ¬ (c1.length : Int) = (d1.length : Int)), decide_eq_false (fun h => hl (congrArg List.length h.2))]; rfl
end
end Go.Proofs.YtpkhifegfpehpaaGreat.Eng
