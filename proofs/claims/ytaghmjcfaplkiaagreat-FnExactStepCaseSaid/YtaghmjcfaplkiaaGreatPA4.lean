/- Conditions: whether they are valid, whether they hold. -/
import Derived.Test.YtaghmjcfaplkiaaGreatPA3
namespace Go.Proofs.YtaghmjcfaplkiaaGreat.Eng
open Go.RowKit
set_option linter.unusedVariables false
set_option linter.unusedSimpArgs false
set_option linter.unusedSectionVars false
set_option maxRecDepth 100000
variable [Sm]
theorem SR : ∀ (x : List U) (k : Nat), Fx (ul x k) ≤ FP x
 | [], k => by simp [ul, Fx, U.bB]
 | u :: us, 0 => by
  simp only [ul, List.getD_cons_zero, FP]
  cases u <;> simp [U.bB, Fx, FV]
 | u :: us, k + 1 => by
  have := SR us k
  simp only [ul, List.getD_cons_succ, FP] at this ⊢
  omega
theorem sub_lt {xs : LL} {i : Nat} (hi : i < xs.length) (k : Nat) : Fx (ul (xs.getD i []) k) < Fx xs :=
 Nat.lt_of_le_of_lt (SR _ k) (FX (FB hi (z := [])))
end Go.Proofs.YtaghmjcfaplkiaaGreat.Eng
/- half -/
