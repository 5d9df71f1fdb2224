/- Sessions: started, reviewed. -/
import Derived.Test.YtbanfmadialnkaaGreatH
import Derived.Test.YtbanfmadialnkaaGreatPP
import Derived.Test.YtbanfmadialnkaaGreatPT
namespace Go.Proofs.YtbanfmadialnkaaGreat.Eng
open Go.RowKit
set_option linter.unusedVariables false
set_option linter.unusedSimpArgs false
set_option linter.unusedSectionVars false
set_option maxRecDepth 100000
variable [Sm]
theorem K8 {p d g a o n : Int} (h : iN p d g a o n = true) : (0 ≤ p ∧ p ≤ 1000) ∧ (0 ≤ d ∧ d ≤ 1000) ∧ (0 ≤ g ∧ g ≤ 1000) ∧ (0 ≤ a ∧ a ≤ 1000) ∧ (0 ≤ o ∧ o ≤ 1000) ∧ 0 ≤ n ∧ n ≤ 10000 := by
 unfold iN at h
 simp only [Bool.and_eq_true] at h
 obtain ⟨h1, h2, h3, h4, h5, h6⟩ := h
 unfold eL at h1 h2 h3 h4
 simp only [Bool.and_eq_true] at h1 h2 h3 h4
 have := dV h1.1
 have := dV h2.1
 have := dV h3.1
 have := dV h4.1
 have := dV h5
 have := dV h6
 omega
/-! ### Sessions -/
def An (i : Nat) (x : List U) : Bool := decide (ui x 0 = ((i + 1 : Nat) : Int)) && (!decide (ui x 1 < 1) && (!decide (ui x 2 < 1) && iN (ui x 3) (ui x 4) (ui x 5) (ui x 6) (ui x 7) (ui x 8)))
def AY (xs : LL) : Bool := (List.range xs.length).all (fun i => An i (xs.getD i [])) && decide (ln xs ≤ 10)
theorem Nu (xs : LL) (hx : xs.length ≤ 4611686018427387904) : lB.c xs = rB (AY xs) := by
 rw [lB.eq]
 refine dr (l0 := fun i => lB.l0 xs i) (n := xs.length) (p := fun i => An i (xs.getD i [])) ?_ fun i hi => ?_
 ·rw [lB.ah, aQ (Nat.le_refl _)]; rfl
 ·rw [lB.ah, aR hi, bo hi, bH (by omega), Dy]
  unfold An
  show (bif !decide (ui (xs.getD i []) 0 = _) then _ else bif decide (ui (xs.getD i []) 1 < 1) then _ else bif decide (ui (xs.getD i []) 2 < 1) then _ else bif !iN (ui (xs.getD i []) 3) (ui (xs.getD i []) 4) (ui (xs.getD i []) 5) (ui (xs.getD i []) 6) (ui (xs.getD i []) 7) (ui (xs.getD i []) 8) then _ else _) = _
  cases decide (ui (xs.getD i []) 0 = ((i + 1 : Nat) : Int)) <;> cases decide (ui (xs.getD i []) 1 < 1) <;> cases decide (ui (xs.getD i []) 2 < 1) <;> cases iN (ui (xs.getD i []) 3) (ui (xs.getD i []) 4) (ui (xs.getD i []) 5) (ui (xs.getD i []) 6) (ui (xs.getD i []) 7) (ui (xs.getD i []) 8) <;> rfl
theorem NG (xs : LL) (hx : xs.length ≤ 4611686018427387904) : lF.c xs = rB (AY xs) := by
 rw [lF.eq]
 refine dr (l0 := fun i => lF.l0 xs xs _ i) (n := xs.length) (p := fun i => An i (xs.getD i [])) ?_ fun i hi => ?_
 ·rw [lF.ah, aQ (Nat.le_refl _)]; rfl
 ·rw [lF.ah, aR hi, bo hi, bH (by omega), Dz]
  unfold An
  show (bif !decide (ui (xs.getD i []) 0 = _) then _ else bif decide (ui (xs.getD i []) 1 < 1) then _ else bif decide (ui (xs.getD i []) 2 < 1) then _ else bif !iN (ui (xs.getD i []) 3) (ui (xs.getD i []) 4) (ui (xs.getD i []) 5) (ui (xs.getD i []) 6) (ui (xs.getD i []) 7) (ui (xs.getD i []) 8) then _ else _) = _
  cases decide (ui (xs.getD i []) 0 = ((i + 1 : Nat) : Int)) <;> cases decide (ui (xs.getD i []) 1 < 1) <;> cases decide (ui (xs.getD i []) 2 < 1) <;> cases iN (ui (xs.getD i []) 3) (ui (xs.getD i []) 4) (ui (xs.getD i []) 5) (ui (xs.getD i []) 6) (ui (xs.getD i []) 7) (ui (xs.getD i []) 8) <;> rfl
end Go.Proofs.YtbanfmadialnkaaGreat.Eng
/- half -/
