/- Comparing functions, written by a program of ours (wip/bin/eqgen.py) for this claim. -/
import Derived.Test.YtpkhifegfpehpaaGreatPQ2
namespace Go.Proofs.YtpkhifegfpehpaaGreat.Eng
open Go.RowKit
section
open Classical
set_option linter.unusedVariables false
set_option linter.unusedSimpArgs false
set_option maxRecDepth 100000
theorem eq_spec_EqualPolicies_l0 (x1 : Int) (x2 : List (List U)) (x3 : Int) (x4 : List (List U)) (hl : x2.length = x4.length) (ha : WR tabs.ct 268 x2) (hb : WR tabs.ct 268 x4) {R : Option Ret} (hend : spec_EqualPolicies.l0 dn iterJ (x2.length : Int) x1 x2 x3 x4 = R) : spec_EqualPolicies.l0 dn iterJ 0 x1 x2 x3 x4 = bif decide (x2 = x4) then R else rB false := by
  have hm := ha.1
  refine eq_loop (l0 := fun i => spec_EqualPolicies.l0 dn iterJ i x1 x2 x3 x4) (R := R) (F := rB false) hl hend fun i hi => ?_
  have hj : i < x4.length := hl ▸ hi
  obtain ⟨c0, c1, c2, c3, c4, c5, c6, hrc, hc6⟩ := row268 (ha.2 _ (getD_mem hi (z := [])))
  obtain ⟨d0, d1, d2, d3, d4, d5, d6, hrd, hd6⟩ := row268 (hb.2 _ (getD_mem hj (z := [])))
  rw [spec_EqualPolicies.l0_eq fix, lt_nat hi, inRange_nat, inRange_nat, decide_eq_true hi, decide_eq_true hj, Int.toNat_natCast, wrap_nat (n := i) (by omega), hrc, hrd]
  simp (disch := assumption) only [Option.bind_some, Ret.u_mk, Ret.m_mk, List.getD_cons_zero, List.getD_cons_succ, U.toInt_int, U.toBool_bool, U.toStr_str, U.toLst_lst, cond_true, cond_false, Bool.and_true, eq_sconds, eq_iconds]
  by_cases e0 : c0 = d0
  rotate_left
  · simp [e0]
  by_cases e1 : c1 = d1
  rotate_left
  · simp [e1]
  by_cases e2 : c2 = d2
  rotate_left
  · simp [e2]
  by_cases e3 : c3 = d3
  rotate_left
  · simp [e3]
  by_cases e4 : c4 = d4
  rotate_left
  · simp [e4]
  by_cases e5 : c5 = d5
  rotate_left
  · simp [e5]
  by_cases e6 : c6 = d6
  rotate_left
  · simp [e6]
  simp [e0, e1, e2, e3, e4, e5, e6]
theorem eq_impl_equalRules (c0 d0 : Int) (c1 d1 : Int) (c2 d2 : Int) (c3 d3 : Int) (c4 d4 : Int) (c5 d5 : Int) (c6 d6 : List (List U)) (hc6 : WR tabs.ct 266 c6) (hd6 : WR tabs.ct 266 d6) : impl_equalRules.c dn c0 c1 c2 c3 c4 c5 c6 d0 d1 d2 d3 d4 d5 d6 = rB (decide (c0 = d0 ∧ c1 = d1 ∧ c2 = d2 ∧ c3 = d3 ∧ c4 = d4 ∧ c5 = d5 ∧ c6 = d6)) := by
  rw [impl_equalRules.eq fix]
  simp (disch := assumption) only [Option.bind_some, Ret.u_mk, Ret.m_mk, List.getD_cons_zero, List.getD_cons_succ, U.toInt_int, U.toBool_bool, U.toStr_str, U.toLst_lst, cond_true, cond_false, Bool.and_true, eq_sconds, eq_iconds]
  by_cases e0 : c0 = d0
  rotate_left
  · simp [e0]
  by_cases e1 : c1 = d1
  rotate_left
  · simp [e1]
  by_cases e2 : c2 = d2
  rotate_left
  · simp [e2]
  by_cases e3 : c3 = d3
  rotate_left
  · simp [e3]
  by_cases e4 : c4 = d4
  rotate_left
  · simp [e4]
  by_cases e5 : c5 = d5
  rotate_left
  · simp [e5]
  by_cases e6 : c6 = d6
  rotate_left
  · simp [e6]
  simp [e0, e1, e2, e3, e4, e5, e6]
theorem eq_slices_EqualFunc_6 (a b : List (List U)) (ha : WR tabs.ct 268 a) (hb : WR tabs.ct 268 b) : slices_EqualFunc_6.c dn a b = rB (decide (a = b)) := by
  rw [slices_EqualFunc_6.eq fix]
  have hm := ha.1
  by_cases hl : a.length = b.length
  · rw [decide_eq_true (by omega : (a.length : Int) = (b.length : Int)), Bool.not_true, cond_false]
    refine (eq_loop (l0 := fun i => slices_EqualFunc_6.l0 dn iterJ b a (a.length : Int) i) (R := rB true) (F := rB false) hl ?_ fun i hi => ?_).trans (by exact bif_dec _ _)
    · rw [slices_EqualFunc_6.l0_eq fix, not_lt_nat (Nat.le_refl _)]; rfl
    · have hj : i < b.length := hl ▸ hi
      obtain ⟨c0, c1, c2, c3, c4, c5, c6, hrc, hc6⟩ := row268 (ha.2 _ (getD_mem hi (z := [])))
      obtain ⟨d0, d1, d2, d3, d4, d5, d6, hrd, hd6⟩ := row268 (hb.2 _ (getD_mem hj (z := [])))
      rw [slices_EqualFunc_6.l0_eq fix, lt_nat hi, inRange_nat, inRange_nat, decide_eq_true hi, decide_eq_true hj, Int.toNat_natCast, wrap_nat (n := i) (by omega), hrc, hrd]
      simp (disch := assumption) only [Option.bind_some, Ret.u_mk, Ret.m_mk, List.getD_cons_zero, List.getD_cons_succ, U.toInt_int, U.toBool_bool, U.toStr_str, U.toLst_lst, cond_true, cond_false, Bool.and_true, eq_sconds, eq_iconds, eq_impl_equalRules]
      by_cases e0 : c0 = d0
      rotate_left
      · simp [e0]
      by_cases e1 : c1 = d1
      rotate_left
      · simp [e1]
      by_cases e2 : c2 = d2
      rotate_left
      · simp [e2]
      by_cases e3 : c3 = d3
      rotate_left
      · simp [e3]
      by_cases e4 : c4 = d4
      rotate_left
      · simp [e4]
      by_cases e5 : c5 = d5
      rotate_left
      · simp [e5]
      by_cases e6 : c6 = d6
      rotate_left
      · simp [e6]
      simp [e0, e1, e2, e3, e4, e5, e6]
  · rw [decide_eq_false (by omega : ¬ (a.length : Int) = (b.length : Int)), decide_eq_false (fun h => hl (congrArg List.length h))]; rfl
theorem eq_impl_EqualPolicies (c0 d0 : Int) (c1 d1 : List (List U)) (hc1 : WR tabs.ct 268 c1) (hd1 : WR tabs.ct 268 d1) : impl_EqualPolicies.c dn c0 c1 d0 d1 = rB (decide (c0 = d0 ∧ c1 = d1)) := by
  rw [impl_EqualPolicies.eq fix]
  simp (disch := assumption) only [Option.bind_some, Ret.u_mk, Ret.m_mk, List.getD_cons_zero, List.getD_cons_succ, U.toInt_int, U.toBool_bool, U.toStr_str, U.toLst_lst, cond_true, cond_false, Bool.and_true, eq_sconds, eq_iconds, eq_impl_equalRules, eq_slices_EqualFunc_6]
  by_cases e0 : c0 = d0
  rotate_left
  · simp [e0]
  by_cases e1 : c1 = d1
  rotate_left
  · simp [e1]
  simp [e0, e1]
end
end Go.Proofs.YtpkhifegfpehpaaGreat.Eng
