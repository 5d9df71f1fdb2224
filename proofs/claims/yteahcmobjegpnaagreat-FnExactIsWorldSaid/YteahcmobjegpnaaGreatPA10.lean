/- Sessions: started, reviewed. -/
import Derived.Test.YteahcmobjegpnaaGreatH
import Derived.Test.YteahcmobjegpnaaGreatPP
import Derived.Test.YteahcmobjegpnaaGreatPT
namespace Go.Proofs.YteahcmobjegpnaaGreat.Eng
open Go.RowKit
set_option linter.unusedVariables false
set_option linter.unusedSimpArgs false
set_option linter.unusedSectionVars false
set_option maxRecDepth 100000
variable [Sm]
theorem req_bd {p d g a o n : Int} (h : isReq p d g a o n = true) : (0 ≤ p ∧ p ≤ 1000) ∧ (0 ≤ d ∧ d ≤ 1000) ∧ (0 ≤ g ∧ g ≤ 1000) ∧ (0 ≤ a ∧ a ≤ 1000) ∧ (0 ≤ o ∧ o ≤ 1000) ∧ 0 ≤ n ∧ n ≤ 10000 := by
  unfold isReq at h
  simp only [Bool.and_eq_true] at h
  obtain ⟨h1, h2, h3, h4, h5, h6⟩ := h
  unfold hasKind at h1 h2 h3 h4
  simp only [Bool.and_eq_true] at h1 h2 h3 h4
  have := within_inv h1.1
  have := within_inv h2.1
  have := within_inv h3.1
  have := within_inv h4.1
  have := within_inv h5
  have := within_inv h6
  omega
/-! ### Sessions -/
def sessOk (i : Nat) (x : List U) : Bool := decide (ui x 0 = ((i + 1 : Nat) : Int)) && (!decide (ui x 1 < 1) && (!decide (ui x 2 < 1) && isReq (ui x 3) (ui x 4) (ui x 5) (ui x 6) (ui x 7) (ui x 8)))
def areSess (xs : LL) : Bool := (List.range xs.length).all (fun i => sessOk i (xs.getD i [])) && decide (ln xs ≤ 10)
theorem s_areSess (xs : LL) (hx : xs.length ≤ 4611686018427387904) : spec_AreSessions.c xs = rB (areSess xs) := by
  rw [spec_AreSessions.eq]
  refine all_loop2 (l0 := fun i => spec_AreSessions.l0 xs i) (n := xs.length) (p := fun i => sessOk i (xs.getD i [])) ?_ fun i hi => ?_
  · rw [spec_AreSessions.l0_eq, not_lt_nat (Nat.le_refl _)]; rfl
  · rw [spec_AreSessions.l0_eq, lt_nat hi, in_nat hi, w64_nat (by omega), s_req]
    unfold sessOk
    show (bif !decide (ui (xs.getD i []) 0 = _) then _ else bif decide (ui (xs.getD i []) 1 < 1) then _ else bif decide (ui (xs.getD i []) 2 < 1) then _ else bif !isReq (ui (xs.getD i []) 3) (ui (xs.getD i []) 4) (ui (xs.getD i []) 5) (ui (xs.getD i []) 6) (ui (xs.getD i []) 7) (ui (xs.getD i []) 8) then _ else _) = _
    cases decide (ui (xs.getD i []) 0 = ((i + 1 : Nat) : Int)) <;> cases decide (ui (xs.getD i []) 1 < 1) <;> cases decide (ui (xs.getD i []) 2 < 1) <;> cases isReq (ui (xs.getD i []) 3) (ui (xs.getD i []) 4) (ui (xs.getD i []) 5) (ui (xs.getD i []) 6) (ui (xs.getD i []) 7) (ui (xs.getD i []) 8) <;> rfl
theorem i_areSess (xs : LL) (hx : xs.length ≤ 4611686018427387904) : impl_AreSessions.c xs = rB (areSess xs) := by
  rw [impl_AreSessions.eq]
  refine all_loop2 (l0 := fun i => impl_AreSessions.l0 xs xs _ i) (n := xs.length) (p := fun i => sessOk i (xs.getD i [])) ?_ fun i hi => ?_
  · rw [impl_AreSessions.l0_eq, not_lt_nat (Nat.le_refl _)]; rfl
  · rw [impl_AreSessions.l0_eq, lt_nat hi, in_nat hi, w64_nat (by omega), i_req]
    unfold sessOk
    show (bif !decide (ui (xs.getD i []) 0 = _) then _ else bif decide (ui (xs.getD i []) 1 < 1) then _ else bif decide (ui (xs.getD i []) 2 < 1) then _ else bif !isReq (ui (xs.getD i []) 3) (ui (xs.getD i []) 4) (ui (xs.getD i []) 5) (ui (xs.getD i []) 6) (ui (xs.getD i []) 7) (ui (xs.getD i []) 8) then _ else _) = _
    cases decide (ui (xs.getD i []) 0 = ((i + 1 : Nat) : Int)) <;> cases decide (ui (xs.getD i []) 1 < 1) <;> cases decide (ui (xs.getD i []) 2 < 1) <;> cases isReq (ui (xs.getD i []) 3) (ui (xs.getD i []) 4) (ui (xs.getD i []) 5) (ui (xs.getD i []) 6) (ui (xs.getD i []) 7) (ui (xs.getD i []) 8) <;> rfl
end Go.Proofs.YteahcmobjegpnaaGreat.Eng
