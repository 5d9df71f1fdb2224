/- CountKind and LastTick answer as the reference answers: the pure statements. -/
import Derived.Test.YtalgdejblgkjjaaH
namespace Go.Proofs.Ytalgdejblgkjjaa.Eng
open Go.RowKit
set_option maxRecDepth 100000
set_option linter.unusedSimpArgs false
theorem same_CountKind (xs : List (List U)) (k : Int) (hl : xs.length ≤ 1048576) : ∃ n, spec_CountKind.c dn xs k = some ⟨[[.int n]], []⟩ ∧ impl_CountKind.c dn xs k = some ⟨[[.int n]], []⟩ := by
  rw [spec_CountKind.eq fix, impl_CountKind.eq fix]
  have key : ∀ i, i ≤ xs.length → ∀ a : Int, ∃ n, spec_CountKind.l0 dn iterL xs k a (i : Int) = some ⟨[[.int n]], []⟩ ∧ impl_CountKind.l0 dn iterL k a xs (xs.length : Int) (i : Int) = some ⟨[[.int n]], []⟩ := by
    refine down xs.length (fun a => ⟨a, ?_, ?_⟩) (fun i hi h a => ?_)
    · rw [spec_CountKind.l0_eq fix, not_lt_nat (Nat.le_refl _)]; rfl
    · rw [impl_CountKind.l0_eq fix, not_lt_nat (Nat.le_refl _)]; rfl
    · rw [spec_CountKind.l0_eq fix, impl_CountKind.l0_eq fix, lt_nat hi, inRange_nat, decide_eq_true hi, Int.toNat_natCast, wrap_nat (by omega)]
      cases decide (((xs.getD i []).getD 0 U0).toInt = k)
      · exact h a
      · exact h _
  exact key 0 (Nat.zero_le _) 0
theorem same_LastTick (xs : List (List U)) (hl : xs.length ≤ 1048576) : ∃ n, spec_LastTick.c dn xs = some ⟨[[.int n]], []⟩ ∧ impl_LastTick.c dn xs = some ⟨[[.int n]], []⟩ := by
  rw [spec_LastTick.eq fix, impl_LastTick.eq fix]
  have key : ∀ i, i ≤ xs.length → ∀ a : Int, ∃ n, spec_LastTick.l0 dn iterL xs a (i : Int) = some ⟨[[.int n]], []⟩ ∧ impl_LastTick.l0 dn iterL a xs (xs.length : Int) (i : Int) = some ⟨[[.int n]], []⟩ := by
    refine down xs.length (fun a => ⟨a, ?_, ?_⟩) (fun i hi h a => ?_)
    · rw [spec_LastTick.l0_eq fix, not_lt_nat (Nat.le_refl _)]; rfl
    · rw [impl_LastTick.l0_eq fix, not_lt_nat (Nat.le_refl _)]; rfl
    · rw [spec_LastTick.l0_eq fix, impl_LastTick.l0_eq fix, lt_nat hi, inRange_nat, decide_eq_true hi, Int.toNat_natCast, wrap_nat (by omega)]
      cases decide (((xs.getD i []).getD 0 U0).toInt = (1 : Int))
      · exact h a
      · exact h _
  exact key 0 (Nat.zero_le _) (-1)
theorem FnExactCountKind_pure (u0 : List U) (W0 : WTs tabs.ct (tabs.ct 22) u0) (u1 : List U) (W1 : WTs tabs.ct (tabs.ct 3) u1) : dn 3 [argSV tabs 22 u0, argSV tabs 3 u1] [] = some ⟨[[.bool true]], []⟩ := by
  have W0' : WTs tabs.ct [.slc 53] u0 := W0
  obtain ⟨v, _, rfl, k0, hn⟩ := W0'.cons
  obtain rfl := hn.nil
  obtain ⟨xs, rfl, hw⟩ := k0.slc_inv
  show laws_FnExactCountKind.c dn xs ((u1.getD 0 U0).toInt) = _
  generalize (u1.getD 0 U0).toInt = k
  rw [laws_FnExactCountKind.eq fix, sz_EventS xs hw (by omega) (by omega)]
  unfold szR
  by_cases hc : cntRs xs ≤ 1048576
  · have hl := cntRs_length xs
    obtain ⟨n, h1, h2⟩ := same_CountKind xs k (by omega)
    rw [if_pos (by omega), to_EventS xs hw hc]
    simp [-List.getD_eq_getElem?_getD, List.getD_cons_zero, h1, h2, eq_EventS xs (hw.iso prs_ok (by rfl)) hc, decide_eq_false (by omega : ¬ (1048576 - (cntRs xs : Int) < 0))]
  · rw [if_neg (by omega)]; rfl
theorem FnExactLastTick_pure (u0 : List U) (W0 : WTs tabs.ct (tabs.ct 22) u0) : dn 4 [argSV tabs 22 u0] [] = some ⟨[[.bool true]], []⟩ := by
  have W0' : WTs tabs.ct [.slc 53] u0 := W0
  obtain ⟨v, _, rfl, k0, hn⟩ := W0'.cons
  obtain rfl := hn.nil
  obtain ⟨xs, rfl, hw⟩ := k0.slc_inv
  show laws_FnExactLastTick.c dn xs = _
  rw [laws_FnExactLastTick.eq fix, sz_EventS xs hw (by omega) (by omega)]
  unfold szR
  by_cases hc : cntRs xs ≤ 1048576
  · have hl := cntRs_length xs
    obtain ⟨n, h1, h2⟩ := same_LastTick xs (by omega)
    rw [if_pos (by omega), to_EventS xs hw hc]
    simp [-List.getD_eq_getElem?_getD, List.getD_cons_zero, h1, h2, eq_EventS xs (hw.iso prs_ok (by rfl)) hc, decide_eq_false (by omega : ¬ (1048576 - (cntRs xs : Int) < 0))]
  · rw [if_neg (by omega)]; rfl
end Go.Proofs.Ytalgdejblgkjjaa.Eng
