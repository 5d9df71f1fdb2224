/- What functions over lists of facts, revocations, saved decisions compute. -/
import Derived.Test.YtaghmjcfaplkiaaGreatPA1
namespace Go.Proofs.YtaghmjcfaplkiaaGreat.Eng
open Go.RowKit
set_option linter.unusedVariables false
set_option linter.unusedSimpArgs false
set_option linter.unusedSectionVars false
set_option maxRecDepth 100000
variable [Sm]
def has (xs : LL) (v : Int) : Bool := xs.any fun x => decide (v0 x = v)
theorem SA (xs : LL) (hx : xs.length ≤ 4611686018427387904) (v : Int) : JS.c xs v = rB (has xs v) := by
 rw [JS.eq]
 refine (UC (l0 := fun i => JS.l0 xs v i) (n := xs.length) (p := fun i => decide (v0 (xs.getD i []) = v)) ?_ fun i hi => ?_).trans (congrArg rB (Rl xs [] fun x => decide (v0 x = v)))
 ·rw [JS.Fy, FK (Nat.le_refl _)]; rfl
 ·rw [JS.Fy, FJ hi, GH hi, HS (by omega)]; rfl
theorem WN (xs : LL) (hx : xs.length ≤ 4611686018427387904) (v : Int) : KQ.c xs v = rI (pos (fun i => decide (v = v0 (xs.getD i []))) xs.length 0) := by
 rw [KQ.eq]
 refine Th (l0 := fun i => KQ.l0 xs v _ i) (n := xs.length) (p := fun i => decide (v = v0 (xs.getD i []))) ?_ fun i hi => ?_
 ·rw [KQ.Fy, FK (Nat.le_refl _)]; rfl
 ·rw [KQ.Fy, FJ hi, GH hi, HS (by omega)]; rfl
theorem UD {xs : LL} (q : List U → Bool) : decide (pos (fun i => q (xs.getD i [])) xs.length 0 ≥ 0) = xs.any q := by
 rw [Sk, ← List.range_eq_range', Rl xs [] q]
theorem Sa (xs : LL) (hx : xs.length ≤ 4611686018427387904) (v : Int) : MF.c xs v = rB (has xs v) := by
 rw [MF.eq, WN xs hx]
 show rB (decide (pos _ _ _ ≥ 0)) = _
 rw [UD fun x => decide (v = v0 x)]
 simp only [has, eq_comm]
end Go.Proofs.YtaghmjcfaplkiaaGreat.Eng
/- half -/
