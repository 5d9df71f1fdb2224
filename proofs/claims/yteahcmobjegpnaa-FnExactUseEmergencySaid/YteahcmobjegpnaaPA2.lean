/- What functions over lists of facts, revocations, saved decisions compute. -/
import Derived.Test.YteahcmobjegpnaaPA1
namespace Go.Proofs.Yteahcmobjegpnaa.Eng
open Go.RowKit
set_option linter.unusedVariables false
set_option linter.unusedSimpArgs false
set_option linter.unusedSectionVars false
set_option maxRecDepth 100000
variable [Sm]
def has (xs : LL) (v : Int) : Bool := xs.any fun x => decide (v0 x = v)
theorem s_has (xs : LL) (hx : xs.length ≤ 4611686018427387904) (v : Int) : spec_l13Has.c xs v = rB (has xs v) := by
  rw [spec_l13Has.eq]
  refine (any_loop (l0 := fun i => spec_l13Has.l0 xs v i) (n := xs.length) (p := fun i => decide (v0 (xs.getD i []) = v)) ?_ fun i hi => ?_).trans (congrArg rB (range_any xs [] fun x => decide (v0 x = v)))
  · rw [spec_l13Has.l0_eq, not_lt_nat (Nat.le_refl _)]; rfl
  · rw [spec_l13Has.l0_eq, lt_nat hi, in_nat hi, w64_nat (by omega)]; rfl
theorem i_index (xs : LL) (hx : xs.length ≤ 4611686018427387904) (v : Int) : slices_Index_int.c xs v = rI (pos (fun i => decide (v = v0 (xs.getD i []))) xs.length 0) := by
  rw [slices_Index_int.eq]
  refine find_loop (l0 := fun i => slices_Index_int.l0 xs v _ i) (n := xs.length) (p := fun i => decide (v = v0 (xs.getD i []))) ?_ fun i hi => ?_
  · rw [slices_Index_int.l0_eq, not_lt_nat (Nat.le_refl _)]; rfl
  · rw [slices_Index_int.l0_eq, lt_nat hi, in_nat hi, w64_nat (by omega)]; rfl
theorem any_pos {xs : LL} (q : List U → Bool) : decide (pos (fun i => q (xs.getD i [])) xs.length 0 ≥ 0) = xs.any q := by
  rw [pos_any, ← List.range_eq_range', range_any xs [] q]
theorem i_has (xs : LL) (hx : xs.length ≤ 4611686018427387904) (v : Int) : slices_Contains_int.c xs v = rB (has xs v) := by
  rw [slices_Contains_int.eq, i_index xs hx]
  show rB (decide (pos _ _ _ ≥ 0)) = _
  rw [any_pos fun x => decide (v = v0 x)]
  simp only [has, eq_comm]
end Go.Proofs.Yteahcmobjegpnaa.Eng
