/- Sessions: started, reviewed. -/
import Derived.Test.YtbanfmadialnkaaGreatH
import Derived.Test.YtbanfmadialnkaaGreatPP
import Derived.Test.YtbanfmadialnkaaGreatPT
namespace Go.Proofs.YtbanfmadialnkaaGreat.Eng
open Go.RowKit
set_option linter.unusedVariables false
set_option linter.unusedSimpArgs false
set_option linter.unusedSectionVars false
set_option maxRecDepth 100000
variable [Sm]
theorem Ue {p d g a o n : Int} (h : GV p d g a o n = true) : (0 ≤ p ∧ p ≤ 1000) ∧ (0 ≤ d ∧ d ≤ 1000) ∧ (0 ≤ g ∧ g ≤ 1000) ∧ (0 ≤ a ∧ a ≤ 1000) ∧ (0 ≤ o ∧ o ≤ 1000) ∧ 0 ≤ n ∧ n ≤ 10000 := by
 unfold GV at h
 simp only [Bool.and_eq_true] at h
 obtain ⟨h1, h2, h3, h4, h5, h6⟩ := h
 unfold EL at h1 h2 h3 h4
 simp only [Bool.and_eq_true] at h1 h2 h3 h4
 have := Ey h1.1
 have := Ey h2.1
 have := Ey h3.1
 have := Ey h4.1
 have := Ey h5
 have := Ey h6
 omega
/-! ### Sessions -/
def OP (i : Nat) (x : List U) : Bool := decide (ui x 0 = ((i + 1 : Nat) : Int)) && (!decide (ui x 1 < 1) && (!decide (ui x 2 < 1) && GV (ui x 3) (ui x 4) (ui x 5) (ui x 6) (ui x 7) (ui x 8)))
def Ps (xs : LL) : Bool := (List.range xs.length).all (fun i => OP i (xs.getD i [])) && decide (ln xs ≤ 10)
theorem ZZ (xs : LL) (hx : xs.length ≤ 4611686018427387904) : IF.c xs = rB (Ps xs) := by
 rw [IF.eq]
 refine Ee (l0 := fun i => IF.l0 xs i) (n := xs.length) (p := fun i => OP i (xs.getD i [])) ?_ fun i hi => ?_
 ·rw [IF.CZ, Dq (Nat.le_refl _)]; rfl
 ·rw [IF.CZ, Dr hi, DB hi, DG (by omega), SH]
  unfold OP
  show (bif !decide (ui (xs.getD i []) 0 = _) then _ else bif decide (ui (xs.getD i []) 1 < 1) then _ else bif decide (ui (xs.getD i []) 2 < 1) then _ else bif !GV (ui (xs.getD i []) 3) (ui (xs.getD i []) 4) (ui (xs.getD i []) 5) (ui (xs.getD i []) 6) (ui (xs.getD i []) 7) (ui (xs.getD i []) 8) then _ else _) = _
  cases decide (ui (xs.getD i []) 0 = ((i + 1 : Nat) : Int)) <;> cases decide (ui (xs.getD i []) 1 < 1) <;> cases decide (ui (xs.getD i []) 2 < 1) <;> cases GV (ui (xs.getD i []) 3) (ui (xs.getD i []) 4) (ui (xs.getD i []) 5) (ui (xs.getD i []) 6) (ui (xs.getD i []) 7) (ui (xs.getD i []) 8) <;> rfl
theorem Xv (xs : LL) (hx : xs.length ≤ 4611686018427387904) : Ij.c xs = rB (Ps xs) := by
 rw [Ij.eq]
 refine Ee (l0 := fun i => Ij.l0 xs xs _ i) (n := xs.length) (p := fun i => OP i (xs.getD i [])) ?_ fun i hi => ?_
 ·rw [Ij.CZ, Dq (Nat.le_refl _)]; rfl
 ·rw [Ij.CZ, Dr hi, DB hi, DG (by omega), RT]
  unfold OP
  show (bif !decide (ui (xs.getD i []) 0 = _) then _ else bif decide (ui (xs.getD i []) 1 < 1) then _ else bif decide (ui (xs.getD i []) 2 < 1) then _ else bif !GV (ui (xs.getD i []) 3) (ui (xs.getD i []) 4) (ui (xs.getD i []) 5) (ui (xs.getD i []) 6) (ui (xs.getD i []) 7) (ui (xs.getD i []) 8) then _ else _) = _
  cases decide (ui (xs.getD i []) 0 = ((i + 1 : Nat) : Int)) <;> cases decide (ui (xs.getD i []) 1 < 1) <;> cases decide (ui (xs.getD i []) 2 < 1) <;> cases GV (ui (xs.getD i []) 3) (ui (xs.getD i []) 4) (ui (xs.getD i []) 5) (ui (xs.getD i []) 6) (ui (xs.getD i []) 7) (ui (xs.getD i []) 8) <;> rfl
end Go.Proofs.YtbanfmadialnkaaGreat.Eng
/- half -/
