/- Comparing functions, written by a program of ours (wip/bin/eqgen.py) for this claim. -/
import Derived.Test.YtpkhifegfpehpaaGreatPQ4
namespace Go.Proofs.YtpkhifegfpehpaaGreat.Eng
open Go.RowKit
section
open Classical
set_option linter.unusedVariables false
set_option linter.unusedSimpArgs false
set_option maxRecDepth 100000
theorem eq_spec_EqualEpochs (c0 d0 : Int) (c1 d1 : Int) (c2 d2 : List (List U)) (c3 d3 : Int) (c4 d4 : List (List U)) (hc2 : WR tabs.ct 254 c2) (hd2 : WR tabs.ct 254 d2) (hc4 : WR tabs.ct 268 c4) (hd4 : WR tabs.ct 268 d4) : spec_EqualEpochs.c dn c0 c1 c2 c3 c4 d0 d1 d2 d3 d4 = rB (decide (c0 = d0 ∧ c1 = d1 ∧ c2 = d2 ∧ c3 = d3 ∧ c4 = d4)) := by
  rw [spec_EqualEpochs.eq fix]
  simp (disch := assumption) only [Option.bind_some, Ret.u_mk, Ret.m_mk, List.getD_cons_zero, List.getD_cons_succ, U.toInt_int, U.toBool_bool, U.toStr_str, U.toLst_lst, cond_true, cond_false, Bool.and_true, eq_spec_EqualInts, eq_spec_l28Issuers, eq_spec_EqualStores, eq_spec_l27Revoked, eq_spec_l24Pairs, eq_spec_l27Saved, eq_slices_Equal, eq_slices_EqualFunc_2, eq_slices_Equal_11, eq_impl_EqualStores, eq_slices_Equal_6, eq_slices_Equal_7, eq_slices_Equal_10, eq_spec_EqualPolicies, eq_impl_EqualPolicies]
  by_cases e0 : c0 = d0
  rotate_left
  · simp [e0]
  by_cases e1 : c1 = d1
  rotate_left
  · simp [e1]
  by_cases e2 : c2 = d2
  rotate_left
  · simp [e2]
  by_cases e3 : c3 = d3
  rotate_left
  · simp [e3]
  by_cases e4 : c4 = d4
  rotate_left
  · simp [e4]
  simp [e0, e1, e2, e3, e4]
theorem eq_impl_EqualEpochs (c0 d0 : Int) (c1 d1 : Int) (c2 d2 : List (List U)) (c3 d3 : Int) (c4 d4 : List (List U)) (hc2 : WR tabs.ct 254 c2) (hd2 : WR tabs.ct 254 d2) (hc4 : WR tabs.ct 268 c4) (hd4 : WR tabs.ct 268 d4) : impl_EqualEpochs.c dn c0 c1 c2 c3 c4 d0 d1 d2 d3 d4 = rB (decide (c0 = d0 ∧ c1 = d1 ∧ c2 = d2 ∧ c3 = d3 ∧ c4 = d4)) := by
  rw [impl_EqualEpochs.eq fix]
  simp (disch := assumption) only [Option.bind_some, Ret.u_mk, Ret.m_mk, List.getD_cons_zero, List.getD_cons_succ, U.toInt_int, U.toBool_bool, U.toStr_str, U.toLst_lst, cond_true, cond_false, Bool.and_true, eq_spec_EqualInts, eq_spec_l28Issuers, eq_spec_EqualStores, eq_spec_l27Revoked, eq_spec_l24Pairs, eq_spec_l27Saved, eq_slices_Equal, eq_slices_EqualFunc_2, eq_slices_Equal_11, eq_impl_EqualStores, eq_slices_Equal_6, eq_slices_Equal_7, eq_slices_Equal_10, eq_spec_EqualPolicies, eq_impl_EqualPolicies, eq_spec_EqualEpochs]
  by_cases e0 : c0 = d0
  rotate_left
  · simp [e0]
  by_cases e1 : c1 = d1
  rotate_left
  · simp [e1]
  by_cases e2 : c2 = d2
  rotate_left
  · simp [e2]
  by_cases e3 : c3 = d3
  rotate_left
  · simp [e3]
  by_cases e4 : c4 = d4
  rotate_left
  · simp [e4]
  simp [e0, e1, e2, e3, e4]
theorem eq_slices_EqualFunc_3 (a b : List (List U)) (ha : WR tabs.ct 135 a) (hb : WR tabs.ct 135 b) : slices_EqualFunc_3.c dn a b = rB (decide (a = b)) := by
  rw [slices_EqualFunc_3.eq fix]
  have hm := ha.1
  by_cases hl : a.length = b.length
  · rw [decide_eq_true (by omega : (a.length : Int) = (b.length : Int)), Bool.not_true, cond_false]
    refine (eq_loop (l0 := fun i => slices_EqualFunc_3.l0 dn iterJ b a (a.length : Int) i) (R := rB true) (F := rB false) hl ?_ fun i hi => ?_).trans (by exact bif_dec _ _)
    · rw [slices_EqualFunc_3.l0_eq fix, not_lt_nat (Nat.le_refl _)]; rfl
    · have hj : i < b.length := hl ▸ hi
      obtain ⟨c0, c1, c2, c3, c4, hrc, hc2, hc4⟩ := row135 (ha.2 _ (getD_mem hi (z := [])))
      obtain ⟨d0, d1, d2, d3, d4, hrd, hd2, hd4⟩ := row135 (hb.2 _ (getD_mem hj (z := [])))
      rw [slices_EqualFunc_3.l0_eq fix, lt_nat hi, inRange_nat, inRange_nat, decide_eq_true hi, decide_eq_true hj, Int.toNat_natCast, wrap_nat (n := i) (by omega), hrc, hrd]
      simp (disch := assumption) only [Option.bind_some, Ret.u_mk, Ret.m_mk, List.getD_cons_zero, List.getD_cons_succ, U.toInt_int, U.toBool_bool, U.toStr_str, U.toLst_lst, cond_true, cond_false, Bool.and_true, eq_spec_EqualInts, eq_spec_l28Issuers, eq_spec_EqualStores, eq_spec_l27Revoked, eq_spec_l24Pairs, eq_spec_l27Saved, eq_slices_Equal, eq_slices_EqualFunc_2, eq_slices_Equal_11, eq_impl_EqualStores, eq_slices_Equal_6, eq_slices_Equal_7, eq_slices_Equal_10, eq_spec_EqualPolicies, eq_impl_EqualPolicies, eq_spec_EqualEpochs, eq_impl_EqualEpochs]
      by_cases e0 : c0 = d0
      rotate_left
      · simp [e0]
      by_cases e1 : c1 = d1
      rotate_left
      · simp [e1]
      by_cases e2 : c2 = d2
      rotate_left
      · simp [e2]
      by_cases e3 : c3 = d3
      rotate_left
      · simp [e3]
      by_cases e4 : c4 = d4
      rotate_left
      · simp [e4]
      simp [e0, e1, e2, e3, e4]
  · rw [decide_eq_false (by omega : ¬ (a.length : Int) = (b.length : Int)), decide_eq_false (fun h => hl (congrArg List.length h))]; rfl
theorem eq_spec_EqualPoints (c0 d0 : Int) (c1 d1 : Int) (c2 d2 : Int) (c3 d3 : List (List U)) (c4 d4 : Int) (c5 d5 : List (List U)) (c6 d6 : List (List U)) (c7 d7 : List (List U)) (c8 d8 : Int) (c9 d9 : List (List U)) (hc3 : WR tabs.ct 254 c3) (hd3 : WR tabs.ct 254 d3) (hc5 : WR tabs.ct 268 c5) (hd5 : WR tabs.ct 268 d5) (hc6 : WR tabs.ct 235 c6) (hd6 : WR tabs.ct 235 d6) (hc7 : WR tabs.ct 209 c7) (hd7 : WR tabs.ct 209 d7) (hc9 : WR tabs.ct 225 c9) (hd9 : WR tabs.ct 225 d9) : spec_EqualPoints.c dn c0 c1 c2 c3 c4 c5 c6 c7 c8 c9 d0 d1 d2 d3 d4 d5 d6 d7 d8 d9 = rB (decide (c0 = d0 ∧ c1 = d1 ∧ c2 = d2 ∧ c3 = d3 ∧ c4 = d4 ∧ c5 = d5 ∧ c6 = d6 ∧ c7 = d7 ∧ c8 = d8 ∧ c9 = d9)) := by
  rw [spec_EqualPoints.eq fix]
  simp (disch := assumption) only [Option.bind_some, Ret.u_mk, Ret.m_mk, List.getD_cons_zero, List.getD_cons_succ, U.toInt_int, U.toBool_bool, U.toStr_str, U.toLst_lst, cond_true, cond_false, Bool.and_true, eq_spec_EqualInts, eq_spec_l28Issuers, eq_spec_EqualStores, eq_spec_l27Revoked, eq_spec_l24Pairs, eq_spec_l27Saved, eq_slices_Equal, eq_slices_EqualFunc_2, eq_slices_Equal_11, eq_impl_EqualStores, eq_slices_Equal_6, eq_slices_Equal_7, eq_slices_Equal_10, eq_spec_EqualPolicies, eq_impl_EqualPolicies, eq_spec_EqualEpochs, eq_impl_EqualEpochs, eq_slices_EqualFunc_3]
  by_cases e0 : c0 = d0
  rotate_left
  · simp [e0]
  by_cases e1 : c1 = d1
  rotate_left
  · simp [e1]
  by_cases e2 : c2 = d2
  rotate_left
  · simp [e2]
  by_cases e3 : c3 = d3
  rotate_left
  · simp [e3]
  by_cases e4 : c4 = d4
  rotate_left
  · simp [e4]
  by_cases e5 : c5 = d5
  rotate_left
  · simp [e5]
  by_cases e6 : c6 = d6
  rotate_left
  · simp [e6]
  by_cases e7 : c7 = d7
  rotate_left
  · simp [e7]
  by_cases e8 : c8 = d8
  rotate_left
  · simp [e8]
  by_cases e9 : c9 = d9
  rotate_left
  · simp [e9]
  simp [e0, e1, e2, e3, e4, e5, e6, e7, e8, e9]
theorem eq_impl_EqualPoints (c0 d0 : Int) (c1 d1 : Int) (c2 d2 : Int) (c3 d3 : List (List U)) (c4 d4 : Int) (c5 d5 : List (List U)) (c6 d6 : List (List U)) (c7 d7 : List (List U)) (c8 d8 : Int) (c9 d9 : List (List U)) (hc3 : WR tabs.ct 254 c3) (hd3 : WR tabs.ct 254 d3) (hc5 : WR tabs.ct 268 c5) (hd5 : WR tabs.ct 268 d5) (hc6 : WR tabs.ct 235 c6) (hd6 : WR tabs.ct 235 d6) (hc7 : WR tabs.ct 209 c7) (hd7 : WR tabs.ct 209 d7) (hc9 : WR tabs.ct 225 c9) (hd9 : WR tabs.ct 225 d9) : impl_EqualPoints.c dn c0 c1 c2 c3 c4 c5 c6 c7 c8 c9 d0 d1 d2 d3 d4 d5 d6 d7 d8 d9 = rB (decide (c0 = d0 ∧ c1 = d1 ∧ c2 = d2 ∧ c3 = d3 ∧ c4 = d4 ∧ c5 = d5 ∧ c6 = d6 ∧ c7 = d7 ∧ c8 = d8 ∧ c9 = d9)) := by
  rw [impl_EqualPoints.eq fix]
  simp (disch := assumption) only [Option.bind_some, Ret.u_mk, Ret.m_mk, List.getD_cons_zero, List.getD_cons_succ, U.toInt_int, U.toBool_bool, U.toStr_str, U.toLst_lst, cond_true, cond_false, Bool.and_true, eq_spec_EqualInts, eq_spec_l28Issuers, eq_spec_EqualStores, eq_spec_l27Revoked, eq_spec_l24Pairs, eq_spec_l27Saved, eq_slices_Equal, eq_slices_EqualFunc_2, eq_slices_Equal_11, eq_impl_EqualStores, eq_slices_Equal_6, eq_slices_Equal_7, eq_slices_Equal_10, eq_spec_EqualPolicies, eq_impl_EqualPolicies, eq_spec_EqualEpochs, eq_impl_EqualEpochs, eq_slices_EqualFunc_3, eq_spec_EqualPoints]
  by_cases e0 : c0 = d0
  rotate_left
  · simp [e0]
  by_cases e1 : c1 = d1
  rotate_left
  · simp [e1]
  by_cases e2 : c2 = d2
  rotate_left
  · simp [e2]
  by_cases e3 : c3 = d3
  rotate_left
  · simp [e3]
  by_cases e4 : c4 = d4
  rotate_left
  · simp [e4]
  by_cases e5 : c5 = d5
  rotate_left
  · simp [e5]
  by_cases e6 : c6 = d6
  rotate_left
  · simp [e6]
  by_cases e7 : c7 = d7
  rotate_left
  · simp [e7]
  by_cases e8 : c8 = d8
  rotate_left
  · simp [e8]
  by_cases e9 : c9 = d9
  rotate_left
  · simp [e9]
  simp [e0, e1, e2, e3, e4, e5, e6, e7, e8, e9]
theorem eq_slices_EqualFunc (a b : List (List U)) (ha : WR tabs.ct 138 a) (hb : WR tabs.ct 138 b) : slices_EqualFunc.c dn a b = rB (decide (a = b)) := by
  rw [slices_EqualFunc.eq fix]
  have hm := ha.1
  by_cases hl : a.length = b.length
  · rw [decide_eq_true (by omega : (a.length : Int) = (b.length : Int)), Bool.not_true, cond_false]
    refine (eq_loop (l0 := fun i => slices_EqualFunc.l0 dn iterJ b a (a.length : Int) i) (R := rB true) (F := rB false) hl ?_ fun i hi => ?_).trans (by exact bif_dec _ _)
    · rw [slices_EqualFunc.l0_eq fix, not_lt_nat (Nat.le_refl _)]; rfl
    · have hj : i < b.length := hl ▸ hi
      obtain ⟨c0, c1, c2, c3, c4, c5, c6, c7, c8, c9, hrc, hc3, hc5, hc6, hc7, hc9⟩ := row138 (ha.2 _ (getD_mem hi (z := [])))
      obtain ⟨d0, d1, d2, d3, d4, d5, d6, d7, d8, d9, hrd, hd3, hd5, hd6, hd7, hd9⟩ := row138 (hb.2 _ (getD_mem hj (z := [])))
      rw [slices_EqualFunc.l0_eq fix, lt_nat hi, inRange_nat, inRange_nat, decide_eq_true hi, decide_eq_true hj, Int.toNat_natCast, wrap_nat (n := i) (by omega), hrc, hrd]
      simp (disch := assumption) only [Option.bind_some, Ret.u_mk, Ret.m_mk, List.getD_cons_zero, List.getD_cons_succ, U.toInt_int, U.toBool_bool, U.toStr_str, U.toLst_lst, cond_true, cond_false, Bool.and_true, eq_spec_EqualInts, eq_spec_l28Issuers, eq_spec_EqualStores, eq_spec_l27Revoked, eq_spec_l24Pairs, eq_spec_l27Saved, eq_slices_Equal, eq_slices_EqualFunc_2, eq_slices_Equal_11, eq_impl_EqualStores, eq_slices_Equal_6, eq_slices_Equal_7, eq_slices_Equal_10, eq_spec_EqualPolicies, eq_impl_EqualPolicies, eq_spec_EqualEpochs, eq_impl_EqualEpochs, eq_slices_EqualFunc_3, eq_spec_EqualPoints, eq_impl_EqualPoints]
      by_cases e0 : c0 = d0
      rotate_left
      · simp [e0]
      by_cases e1 : c1 = d1
      rotate_left
      · simp [e1]
      by_cases e2 : c2 = d2
      rotate_left
      · simp [e2]
      by_cases e3 : c3 = d3
      rotate_left
      · simp [e3]
      by_cases e4 : c4 = d4
      rotate_left
      · simp [e4]
      by_cases e5 : c5 = d5
      rotate_left
      · simp [e5]
      by_cases e6 : c6 = d6
      rotate_left
      · simp [e6]
      by_cases e7 : c7 = d7
      rotate_left
      · simp [e7]
      by_cases e8 : c8 = d8
      rotate_left
      · simp [e8]
      by_cases e9 : c9 = d9
      rotate_left
      · simp [e9]
      simp [e0, e1, e2, e3, e4, e5, e6, e7, e8, e9]
  · rw [decide_eq_false (by omega : ¬ (a.length : Int) = (b.length : Int)), decide_eq_false (fun h => hl (congrArg List.length h))]; rfl
theorem eq_spec_l36Points (a b : List (List U)) (ha : WR tabs.ct 138 a) (hb : WR tabs.ct 138 b) : spec_l36Points.c dn a b = rB (decide (a = b)) := by
  rw [spec_l36Points.eq fix]
  have hm := ha.1
  by_cases hl : a.length = b.length
  · rw [decide_eq_true (by omega : (a.length : Int) = (b.length : Int)), Bool.not_true, cond_false]
    refine (eq_loop (l0 := fun i => spec_l36Points.l0 dn iterJ a b i) (R := rB true) (F := rB false) hl ?_ fun i hi => ?_).trans (by exact bif_dec _ _)
    · rw [spec_l36Points.l0_eq fix, not_lt_nat (Nat.le_refl _)]; rfl
    · have hj : i < b.length := hl ▸ hi
      obtain ⟨c0, c1, c2, c3, c4, c5, c6, c7, c8, c9, hrc, hc3, hc5, hc6, hc7, hc9⟩ := row138 (ha.2 _ (getD_mem hi (z := [])))
      obtain ⟨d0, d1, d2, d3, d4, d5, d6, d7, d8, d9, hrd, hd3, hd5, hd6, hd7, hd9⟩ := row138 (hb.2 _ (getD_mem hj (z := [])))
      rw [spec_l36Points.l0_eq fix, lt_nat hi, inRange_nat, inRange_nat, decide_eq_true hi, decide_eq_true hj, Int.toNat_natCast, wrap_nat (n := i) (by omega), hrc, hrd]
      simp (disch := assumption) only [Option.bind_some, Ret.u_mk, Ret.m_mk, List.getD_cons_zero, List.getD_cons_succ, U.toInt_int, U.toBool_bool, U.toStr_str, U.toLst_lst, cond_true, cond_false, Bool.and_true, eq_spec_EqualInts, eq_spec_l28Issuers, eq_spec_EqualStores, eq_spec_l27Revoked, eq_spec_l24Pairs, eq_spec_l27Saved, eq_slices_Equal, eq_slices_EqualFunc_2, eq_slices_Equal_11, eq_impl_EqualStores, eq_slices_Equal_6, eq_slices_Equal_7, eq_slices_Equal_10, eq_spec_EqualPolicies, eq_impl_EqualPolicies, eq_spec_EqualEpochs, eq_impl_EqualEpochs, eq_slices_EqualFunc_3, eq_spec_EqualPoints, eq_impl_EqualPoints, eq_slices_EqualFunc]
      by_cases e0 : c0 = d0
      rotate_left
      · simp [e0]
      by_cases e1 : c1 = d1
      rotate_left
      · simp [e1]
      by_cases e2 : c2 = d2
      rotate_left
      · simp [e2]
      by_cases e3 : c3 = d3
      rotate_left
      · simp [e3]
      by_cases e4 : c4 = d4
      rotate_left
      · simp [e4]
      by_cases e5 : c5 = d5
      rotate_left
      · simp [e5]
      by_cases e6 : c6 = d6
      rotate_left
      · simp [e6]
      by_cases e7 : c7 = d7
      rotate_left
      · simp [e7]
      by_cases e8 : c8 = d8
      rotate_left
      · simp [e8]
      by_cases e9 : c9 = d9
      rotate_left
      · simp [e9]
      simp [e0, e1, e2, e3, e4, e5, e6, e7, e8, e9]
  · rw [decide_eq_false (by omega : ¬ (a.length : Int) = (b.length : Int)), decide_eq_false (fun h => hl (congrArg List.length h))]; rfl
theorem eq_impl_EqualCenters (c0 d0 : List (List U)) (c1 d1 : List (List U)) (c2 d2 : List (List U)) (c3 d3 : List (List U)) (c4 d4 : Int) (c5 d5 : List (List U)) (hc0 : WR tabs.ct 220 c0) (hd0 : WR tabs.ct 220 d0) (hc1 : WR tabs.ct 135 c1) (hd1 : WR tabs.ct 135 d1) (hc2 : WR tabs.ct 235 c2) (hd2 : WR tabs.ct 235 d2) (hc3 : WR tabs.ct 209 c3) (hd3 : WR tabs.ct 209 d3) (hc5 : WR tabs.ct 69 c5) (hd5 : WR tabs.ct 69 d5) : impl_EqualCenters.c dn c0 c1 c2 c3 c4 c5 d0 d1 d2 d3 d4 d5 = rB (decide (c0 = d0 ∧ c1 = d1 ∧ c2 = d2 ∧ c3 = d3 ∧ c4 = d4 ∧ c5 = d5)) := by
  rw [impl_EqualCenters.eq fix]
  simp (disch := assumption) only [Option.bind_some, Ret.u_mk, Ret.m_mk, List.getD_cons_zero, List.getD_cons_succ, U.toInt_int, U.toBool_bool, U.toStr_str, U.toLst_lst, cond_true, cond_false, Bool.and_true, eq_spec_EqualInts, eq_spec_l28Issuers, eq_spec_EqualStores, eq_spec_l27Revoked, eq_spec_l24Pairs, eq_spec_l27Saved, eq_slices_Equal, eq_slices_EqualFunc_2, eq_slices_Equal_11, eq_impl_EqualStores, eq_slices_Equal_6, eq_slices_Equal_7, eq_slices_Equal_10, eq_spec_EqualPolicies, eq_impl_EqualPolicies, eq_spec_EqualEpochs, eq_impl_EqualEpochs, eq_slices_EqualFunc_3, eq_spec_EqualPoints, eq_impl_EqualPoints, eq_slices_EqualFunc, eq_spec_l36Points]
  by_cases e0 : c0 = d0
  rotate_left
  · simp [e0]
  by_cases e1 : c1 = d1
  rotate_left
  · simp [e1]
  by_cases e2 : c2 = d2
  rotate_left
  · simp [e2]
  by_cases e3 : c3 = d3
  rotate_left
  · simp [e3]
  by_cases e4 : c4 = d4
  rotate_left
  · simp [e4]
  by_cases e5 : c5 = d5
  rotate_left
  · simp [e5]
  simp [e0, e1, e2, e3, e4, e5]
theorem eq_spec_EqualCenters_l0 (x1 : List (List U)) (x2 : List (List U)) (x3 : List (List U)) (x4 : List (List U)) (x5 : Int) (x6 : List (List U)) (x7 : List (List U)) (x8 : List (List U)) (x9 : List (List U)) (x10 : List (List U)) (x11 : Int) (x12 : List (List U)) (hl : x2.length = x8.length) (ha : WR tabs.ct 135 x2) (hb : WR tabs.ct 135 x8) {R : Option Ret} (hend : spec_EqualCenters.l0 dn iterJ (x2.length : Int) x1 x2 x3 x4 x5 x6 x7 x8 x9 x10 x11 x12 = R) : spec_EqualCenters.l0 dn iterJ 0 x1 x2 x3 x4 x5 x6 x7 x8 x9 x10 x11 x12 = bif decide (x2 = x8) then R else rB false := by
  have hm := ha.1
  refine eq_loop (l0 := fun i => spec_EqualCenters.l0 dn iterJ i x1 x2 x3 x4 x5 x6 x7 x8 x9 x10 x11 x12) (R := R) (F := rB false) hl hend fun i hi => ?_
  have hj : i < x8.length := hl ▸ hi
  obtain ⟨c0, c1, c2, c3, c4, hrc, hc2, hc4⟩ := row135 (ha.2 _ (getD_mem hi (z := [])))
  obtain ⟨d0, d1, d2, d3, d4, hrd, hd2, hd4⟩ := row135 (hb.2 _ (getD_mem hj (z := [])))
  rw [spec_EqualCenters.l0_eq fix, lt_nat hi, inRange_nat, inRange_nat, decide_eq_true hi, decide_eq_true hj, Int.toNat_natCast, wrap_nat (n := i) (by omega), hrc, hrd]
  simp (disch := assumption) only [Option.bind_some, Ret.u_mk, Ret.m_mk, List.getD_cons_zero, List.getD_cons_succ, U.toInt_int, U.toBool_bool, U.toStr_str, U.toLst_lst, cond_true, cond_false, Bool.and_true, eq_spec_EqualInts, eq_spec_l28Issuers, eq_spec_EqualStores, eq_spec_l27Revoked, eq_spec_l24Pairs, eq_spec_l27Saved, eq_slices_Equal, eq_slices_EqualFunc_2, eq_slices_Equal_11, eq_impl_EqualStores, eq_slices_Equal_6, eq_slices_Equal_7, eq_slices_Equal_10, eq_spec_EqualPolicies, eq_impl_EqualPolicies, eq_spec_EqualEpochs, eq_impl_EqualEpochs, eq_slices_EqualFunc_3, eq_spec_EqualPoints, eq_impl_EqualPoints, eq_slices_EqualFunc, eq_spec_l36Points, eq_impl_EqualCenters]
  by_cases e0 : c0 = d0
  rotate_left
  · simp [e0]
  by_cases e1 : c1 = d1
  rotate_left
  · simp [e1]
  by_cases e2 : c2 = d2
  rotate_left
  · simp [e2]
  by_cases e3 : c3 = d3
  rotate_left
  · simp [e3]
  by_cases e4 : c4 = d4
  rotate_left
  · simp [e4]
  simp [e0, e1, e2, e3, e4]
theorem eq_spec_EqualCenters_l1 (x1 : List (List U)) (x2 : List (List U)) (x3 : List (List U)) (x4 : List (List U)) (x5 : Int) (x6 : List (List U)) (x7 : List (List U)) (x8 : List (List U)) (x9 : List (List U)) (x10 : List (List U)) (x11 : Int) (x12 : List (List U)) (hl : x6.length = x12.length) (ha : WR tabs.ct 69 x6) (hb : WR tabs.ct 69 x12) {R : Option Ret} (hend : spec_EqualCenters.l1 dn iterJ (x6.length : Int) x1 x2 x3 x4 x5 x6 x7 x8 x9 x10 x11 x12 = R) : spec_EqualCenters.l1 dn iterJ 0 x1 x2 x3 x4 x5 x6 x7 x8 x9 x10 x11 x12 = bif decide (x6 = x12) then R else rB false := by
  have hm := ha.1
  refine eq_loop (l0 := fun i => spec_EqualCenters.l1 dn iterJ i x1 x2 x3 x4 x5 x6 x7 x8 x9 x10 x11 x12) (R := R) (F := rB false) hl hend fun i hi => ?_
  have hj : i < x12.length := hl ▸ hi
  obtain ⟨c0, c1, c2, c3, c4, c5, hrc⟩ := row69 (ha.2 _ (getD_mem hi (z := [])))
  obtain ⟨d0, d1, d2, d3, d4, d5, hrd⟩ := row69 (hb.2 _ (getD_mem hj (z := [])))
  rw [spec_EqualCenters.l1_eq fix, lt_nat hi, inRange_nat, inRange_nat, decide_eq_true hi, decide_eq_true hj, Int.toNat_natCast, wrap_nat (n := i) (by omega), hrc, hrd]
  simp (disch := assumption) only [Option.bind_some, Ret.u_mk, Ret.m_mk, List.getD_cons_zero, List.getD_cons_succ, U.toInt_int, U.toBool_bool, U.toStr_str, U.toLst_lst, cond_true, cond_false, Bool.and_true, eq_spec_EqualInts, eq_spec_l28Issuers, eq_spec_EqualStores, eq_spec_l27Revoked, eq_spec_l24Pairs, eq_spec_l27Saved, eq_slices_Equal, eq_slices_EqualFunc_2, eq_slices_Equal_11, eq_impl_EqualStores, eq_slices_Equal_6, eq_slices_Equal_7, eq_slices_Equal_10, eq_spec_EqualPolicies, eq_impl_EqualPolicies, eq_spec_EqualEpochs, eq_impl_EqualEpochs, eq_slices_EqualFunc_3, eq_spec_EqualPoints, eq_impl_EqualPoints, eq_slices_EqualFunc, eq_spec_l36Points, eq_impl_EqualCenters]
  by_cases e0 : c0 = d0
  rotate_left
  · simp [e0]
  by_cases e1 : c1 = d1
  rotate_left
  · simp [e1]
  by_cases e2 : c2 = d2
  rotate_left
  · simp [e2]
  by_cases e3 : c3 = d3
  rotate_left
  · simp [e3]
  by_cases e4 : c4 = d4
  rotate_left
  · simp [e4]
  by_cases e5 : c5 = d5
  rotate_left
  · simp [e5]
  simp [e0, e1, e2, e3, e4, e5]
theorem eq_spec_l36Small_l0 (x1 : Int) (x2 : List (List U)) (x3 : List (List U)) (x4 : List (List U)) (x5 : List (List U)) (x6 : Int) (x7 : List (List U)) (x8 : List (List U)) (x9 : List (List U)) (x10 : List (List U)) (x11 : Int) (x12 : List (List U)) (x13 : List (List U)) (x14 : List (List U)) (x15 : List (List U)) (x16 : List (List U)) (x17 : List (List U)) (x18 : Int) (x19 : List (List U)) (x20 : List (List U)) (x21 : Int) (x22 : List (List U)) (x23 : List (List U)) (x24 : List (List U)) (x25 : List (List U)) (x26 : Int) (x27 : List (List U)) (x28 : List (List U)) (x29 : List (List U)) (x30 : List (List U)) (x31 : Int) (x32 : List (List U)) (x33 : List (List U)) (x34 : List (List U)) (x35 : List (List U)) (x36 : List (List U)) (x37 : List (List U)) (x38 : Int) (x39 : List (List U)) (x40 : List (List U)) (hl : x9.length = x29.length) (ha : WR tabs.ct 4 x9) (hb : WR tabs.ct 4 x29) {R : Option Ret} (hend : spec_l36Small.l0 dn iterJ (x9.length : Int) x1 x2 x3 x4 x5 x6 x7 x8 x9 x10 x11 x12 x13 x14 x15 x16 x17 x18 x19 x20 x21 x22 x23 x24 x25 x26 x27 x28 x29 x30 x31 x32 x33 x34 x35 x36 x37 x38 x39 x40 = R) : spec_l36Small.l0 dn iterJ 0 x1 x2 x3 x4 x5 x6 x7 x8 x9 x10 x11 x12 x13 x14 x15 x16 x17 x18 x19 x20 x21 x22 x23 x24 x25 x26 x27 x28 x29 x30 x31 x32 x33 x34 x35 x36 x37 x38 x39 x40 = bif decide (x9 = x29) then R else rB false := by
  have hm := ha.1
  refine eq_loop (l0 := fun i => spec_l36Small.l0 dn iterJ i x1 x2 x3 x4 x5 x6 x7 x8 x9 x10 x11 x12 x13 x14 x15 x16 x17 x18 x19 x20 x21 x22 x23 x24 x25 x26 x27 x28 x29 x30 x31 x32 x33 x34 x35 x36 x37 x38 x39 x40) (R := R) (F := rB false) hl hend fun i hi => ?_
  have hj : i < x29.length := hl ▸ hi
  obtain ⟨c0, hrc⟩ := row4 (ha.2 _ (getD_mem hi (z := [])))
  obtain ⟨d0, hrd⟩ := row4 (hb.2 _ (getD_mem hj (z := [])))
  rw [spec_l36Small.l0_eq fix, lt_nat hi, inRange_nat, inRange_nat, decide_eq_true hi, decide_eq_true hj, Int.toNat_natCast, wrap_nat (n := i) (by omega), hrc, hrd]
  simp (disch := assumption) only [Option.bind_some, Ret.u_mk, Ret.m_mk, List.getD_cons_zero, List.getD_cons_succ, U.toInt_int, U.toBool_bool, U.toStr_str, U.toLst_lst, cond_true, cond_false, Bool.and_true, eq_spec_EqualInts, eq_spec_l28Issuers, eq_spec_EqualStores, eq_spec_l27Revoked, eq_spec_l24Pairs, eq_spec_l27Saved, eq_slices_Equal, eq_slices_EqualFunc_2, eq_slices_Equal_11, eq_impl_EqualStores, eq_slices_Equal_6, eq_slices_Equal_7, eq_slices_Equal_10, eq_spec_EqualPolicies, eq_impl_EqualPolicies, eq_spec_EqualEpochs, eq_impl_EqualEpochs, eq_slices_EqualFunc_3, eq_spec_EqualPoints, eq_impl_EqualPoints, eq_slices_EqualFunc, eq_spec_l36Points, eq_impl_EqualCenters]
  by_cases e0 : c0 = d0
  rotate_left
  · have f0 : (c0 == d0) = false := by simpa using e0
    simp [e0, f0]
  simp [e0]
theorem eq_spec_l36Small_l1 (x1 : Int) (x2 : List (List U)) (x3 : List (List U)) (x4 : List (List U)) (x5 : List (List U)) (x6 : Int) (x7 : List (List U)) (x8 : List (List U)) (x9 : List (List U)) (x10 : List (List U)) (x11 : Int) (x12 : List (List U)) (x13 : List (List U)) (x14 : List (List U)) (x15 : List (List U)) (x16 : List (List U)) (x17 : List (List U)) (x18 : Int) (x19 : List (List U)) (x20 : List (List U)) (x21 : Int) (x22 : List (List U)) (x23 : List (List U)) (x24 : List (List U)) (x25 : List (List U)) (x26 : Int) (x27 : List (List U)) (x28 : List (List U)) (x29 : List (List U)) (x30 : List (List U)) (x31 : Int) (x32 : List (List U)) (x33 : List (List U)) (x34 : List (List U)) (x35 : List (List U)) (x36 : List (List U)) (x37 : List (List U)) (x38 : Int) (x39 : List (List U)) (x40 : List (List U)) (hl : x12.length = x32.length) (ha : WR tabs.ct 143 x12) (hb : WR tabs.ct 143 x32) {R : Option Ret} (hend : spec_l36Small.l1 dn iterJ (x12.length : Int) x1 x2 x3 x4 x5 x6 x7 x8 x9 x10 x11 x12 x13 x14 x15 x16 x17 x18 x19 x20 x21 x22 x23 x24 x25 x26 x27 x28 x29 x30 x31 x32 x33 x34 x35 x36 x37 x38 x39 x40 = R) : spec_l36Small.l1 dn iterJ 0 x1 x2 x3 x4 x5 x6 x7 x8 x9 x10 x11 x12 x13 x14 x15 x16 x17 x18 x19 x20 x21 x22 x23 x24 x25 x26 x27 x28 x29 x30 x31 x32 x33 x34 x35 x36 x37 x38 x39 x40 = bif decide (x12 = x32) then R else rB false := by
  have hm := ha.1
  refine eq_loop (l0 := fun i => spec_l36Small.l1 dn iterJ i x1 x2 x3 x4 x5 x6 x7 x8 x9 x10 x11 x12 x13 x14 x15 x16 x17 x18 x19 x20 x21 x22 x23 x24 x25 x26 x27 x28 x29 x30 x31 x32 x33 x34 x35 x36 x37 x38 x39 x40) (R := R) (F := rB false) hl hend fun i hi => ?_
  have hj : i < x32.length := hl ▸ hi
  obtain ⟨c0, c1, hrc⟩ := row143 (ha.2 _ (getD_mem hi (z := [])))
  obtain ⟨d0, d1, hrd⟩ := row143 (hb.2 _ (getD_mem hj (z := [])))
  rw [spec_l36Small.l1_eq fix, lt_nat hi, inRange_nat, inRange_nat, decide_eq_true hi, decide_eq_true hj, Int.toNat_natCast, wrap_nat (n := i) (by omega), hrc, hrd]
  simp (disch := assumption) only [Option.bind_some, Ret.u_mk, Ret.m_mk, List.getD_cons_zero, List.getD_cons_succ, U.toInt_int, U.toBool_bool, U.toStr_str, U.toLst_lst, cond_true, cond_false, Bool.and_true, eq_spec_EqualInts, eq_spec_l28Issuers, eq_spec_EqualStores, eq_spec_l27Revoked, eq_spec_l24Pairs, eq_spec_l27Saved, eq_slices_Equal, eq_slices_EqualFunc_2, eq_slices_Equal_11, eq_impl_EqualStores, eq_slices_Equal_6, eq_slices_Equal_7, eq_slices_Equal_10, eq_spec_EqualPolicies, eq_impl_EqualPolicies, eq_spec_EqualEpochs, eq_impl_EqualEpochs, eq_slices_EqualFunc_3, eq_spec_EqualPoints, eq_impl_EqualPoints, eq_slices_EqualFunc, eq_spec_l36Points, eq_impl_EqualCenters]
  by_cases e0 : c0 = d0
  rotate_left
  · simp [e0]
  by_cases e1 : c1 = d1
  rotate_left
  · simp [e1]
  simp [e0, e1]
theorem eq_spec_l36Small_l2 (x1 : Int) (x2 : List (List U)) (x3 : List (List U)) (x4 : List (List U)) (x5 : List (List U)) (x6 : Int) (x7 : List (List U)) (x8 : List (List U)) (x9 : List (List U)) (x10 : List (List U)) (x11 : Int) (x12 : List (List U)) (x13 : List (List U)) (x14 : List (List U)) (x15 : List (List U)) (x16 : List (List U)) (x17 : List (List U)) (x18 : Int) (x19 : List (List U)) (x20 : List (List U)) (x21 : Int) (x22 : List (List U)) (x23 : List (List U)) (x24 : List (List U)) (x25 : List (List U)) (x26 : Int) (x27 : List (List U)) (x28 : List (List U)) (x29 : List (List U)) (x30 : List (List U)) (x31 : Int) (x32 : List (List U)) (x33 : List (List U)) (x34 : List (List U)) (x35 : List (List U)) (x36 : List (List U)) (x37 : List (List U)) (x38 : Int) (x39 : List (List U)) (x40 : List (List U)) (hl : x14.length = x34.length) (ha : WR tabs.ct 145 x14) (hb : WR tabs.ct 145 x34) {R : Option Ret} (hend : spec_l36Small.l2 dn iterJ (x14.length : Int) x1 x2 x3 x4 x5 x6 x7 x8 x9 x10 x11 x12 x13 x14 x15 x16 x17 x18 x19 x20 x21 x22 x23 x24 x25 x26 x27 x28 x29 x30 x31 x32 x33 x34 x35 x36 x37 x38 x39 x40 = R) : spec_l36Small.l2 dn iterJ 0 x1 x2 x3 x4 x5 x6 x7 x8 x9 x10 x11 x12 x13 x14 x15 x16 x17 x18 x19 x20 x21 x22 x23 x24 x25 x26 x27 x28 x29 x30 x31 x32 x33 x34 x35 x36 x37 x38 x39 x40 = bif decide (x14 = x34) then R else rB false := by
  have hm := ha.1
  refine eq_loop (l0 := fun i => spec_l36Small.l2 dn iterJ i x1 x2 x3 x4 x5 x6 x7 x8 x9 x10 x11 x12 x13 x14 x15 x16 x17 x18 x19 x20 x21 x22 x23 x24 x25 x26 x27 x28 x29 x30 x31 x32 x33 x34 x35 x36 x37 x38 x39 x40) (R := R) (F := rB false) hl hend fun i hi => ?_
  have hj : i < x34.length := hl ▸ hi
  obtain ⟨c0, c1, c2, hrc⟩ := row145 (ha.2 _ (getD_mem hi (z := [])))
  obtain ⟨d0, d1, d2, hrd⟩ := row145 (hb.2 _ (getD_mem hj (z := [])))
  rw [spec_l36Small.l2_eq fix, lt_nat hi, inRange_nat, inRange_nat, decide_eq_true hi, decide_eq_true hj, Int.toNat_natCast, wrap_nat (n := i) (by omega), hrc, hrd]
  simp (disch := assumption) only [Option.bind_some, Ret.u_mk, Ret.m_mk, List.getD_cons_zero, List.getD_cons_succ, U.toInt_int, U.toBool_bool, U.toStr_str, U.toLst_lst, cond_true, cond_false, Bool.and_true, eq_spec_EqualInts, eq_spec_l28Issuers, eq_spec_EqualStores, eq_spec_l27Revoked, eq_spec_l24Pairs, eq_spec_l27Saved, eq_slices_Equal, eq_slices_EqualFunc_2, eq_slices_Equal_11, eq_impl_EqualStores, eq_slices_Equal_6, eq_slices_Equal_7, eq_slices_Equal_10, eq_spec_EqualPolicies, eq_impl_EqualPolicies, eq_spec_EqualEpochs, eq_impl_EqualEpochs, eq_slices_EqualFunc_3, eq_spec_EqualPoints, eq_impl_EqualPoints, eq_slices_EqualFunc, eq_spec_l36Points, eq_impl_EqualCenters]
  by_cases e0 : c0 = d0
  rotate_left
  · simp [e0]
  by_cases e1 : c1 = d1
  rotate_left
  · simp [e1]
  by_cases e2 : c2 = d2
  rotate_left
  · simp [e2]
  simp [e0, e1, e2]
theorem eq_spec_l36Small_l3 (x1 : Int) (x2 : List (List U)) (x3 : List (List U)) (x4 : List (List U)) (x5 : List (List U)) (x6 : Int) (x7 : List (List U)) (x8 : List (List U)) (x9 : List (List U)) (x10 : List (List U)) (x11 : Int) (x12 : List (List U)) (x13 : List (List U)) (x14 : List (List U)) (x15 : List (List U)) (x16 : List (List U)) (x17 : List (List U)) (x18 : Int) (x19 : List (List U)) (x20 : List (List U)) (x21 : Int) (x22 : List (List U)) (x23 : List (List U)) (x24 : List (List U)) (x25 : List (List U)) (x26 : Int) (x27 : List (List U)) (x28 : List (List U)) (x29 : List (List U)) (x30 : List (List U)) (x31 : Int) (x32 : List (List U)) (x33 : List (List U)) (x34 : List (List U)) (x35 : List (List U)) (x36 : List (List U)) (x37 : List (List U)) (x38 : Int) (x39 : List (List U)) (x40 : List (List U)) (hl : x15.length = x35.length) (ha : WR tabs.ct 124 x15) (hb : WR tabs.ct 124 x35) {R : Option Ret} (hend : spec_l36Small.l3 dn iterJ (x15.length : Int) x1 x2 x3 x4 x5 x6 x7 x8 x9 x10 x11 x12 x13 x14 x15 x16 x17 x18 x19 x20 x21 x22 x23 x24 x25 x26 x27 x28 x29 x30 x31 x32 x33 x34 x35 x36 x37 x38 x39 x40 = R) : spec_l36Small.l3 dn iterJ 0 x1 x2 x3 x4 x5 x6 x7 x8 x9 x10 x11 x12 x13 x14 x15 x16 x17 x18 x19 x20 x21 x22 x23 x24 x25 x26 x27 x28 x29 x30 x31 x32 x33 x34 x35 x36 x37 x38 x39 x40 = bif decide (x15 = x35) then R else rB false := by
  have hm := ha.1
  refine eq_loop (l0 := fun i => spec_l36Small.l3 dn iterJ i x1 x2 x3 x4 x5 x6 x7 x8 x9 x10 x11 x12 x13 x14 x15 x16 x17 x18 x19 x20 x21 x22 x23 x24 x25 x26 x27 x28 x29 x30 x31 x32 x33 x34 x35 x36 x37 x38 x39 x40) (R := R) (F := rB false) hl hend fun i hi => ?_
  have hj : i < x35.length := hl ▸ hi
  obtain ⟨c0, c1, c2, c3, hrc⟩ := row124 (ha.2 _ (getD_mem hi (z := [])))
  obtain ⟨d0, d1, d2, d3, hrd⟩ := row124 (hb.2 _ (getD_mem hj (z := [])))
  rw [spec_l36Small.l3_eq fix, lt_nat hi, inRange_nat, inRange_nat, decide_eq_true hi, decide_eq_true hj, Int.toNat_natCast, wrap_nat (n := i) (by omega), hrc, hrd]
  simp (disch := assumption) only [Option.bind_some, Ret.u_mk, Ret.m_mk, List.getD_cons_zero, List.getD_cons_succ, U.toInt_int, U.toBool_bool, U.toStr_str, U.toLst_lst, cond_true, cond_false, Bool.and_true, eq_spec_EqualInts, eq_spec_l28Issuers, eq_spec_EqualStores, eq_spec_l27Revoked, eq_spec_l24Pairs, eq_spec_l27Saved, eq_slices_Equal, eq_slices_EqualFunc_2, eq_slices_Equal_11, eq_impl_EqualStores, eq_slices_Equal_6, eq_slices_Equal_7, eq_slices_Equal_10, eq_spec_EqualPolicies, eq_impl_EqualPolicies, eq_spec_EqualEpochs, eq_impl_EqualEpochs, eq_slices_EqualFunc_3, eq_spec_EqualPoints, eq_impl_EqualPoints, eq_slices_EqualFunc, eq_spec_l36Points, eq_impl_EqualCenters]
  by_cases e0 : c0 = d0
  rotate_left
  · simp [e0]
  by_cases e1 : c1 = d1
  rotate_left
  · simp [e1]
  by_cases e2 : c2 = d2
  rotate_left
  · simp [e2]
  by_cases e3 : c3 = d3
  rotate_left
  · simp [e3]
  simp [e0, e1, e2, e3]
theorem eq_spec_l36Small_l4 (x1 : Int) (x2 : List (List U)) (x3 : List (List U)) (x4 : List (List U)) (x5 : List (List U)) (x6 : Int) (x7 : List (List U)) (x8 : List (List U)) (x9 : List (List U)) (x10 : List (List U)) (x11 : Int) (x12 : List (List U)) (x13 : List (List U)) (x14 : List (List U)) (x15 : List (List U)) (x16 : List (List U)) (x17 : List (List U)) (x18 : Int) (x19 : List (List U)) (x20 : List (List U)) (x21 : Int) (x22 : List (List U)) (x23 : List (List U)) (x24 : List (List U)) (x25 : List (List U)) (x26 : Int) (x27 : List (List U)) (x28 : List (List U)) (x29 : List (List U)) (x30 : List (List U)) (x31 : Int) (x32 : List (List U)) (x33 : List (List U)) (x34 : List (List U)) (x35 : List (List U)) (x36 : List (List U)) (x37 : List (List U)) (x38 : Int) (x39 : List (List U)) (x40 : List (List U)) (hl : x20.length = x40.length) (ha : WR tabs.ct 149 x20) (hb : WR tabs.ct 149 x40) {R : Option Ret} (hend : spec_l36Small.l4 dn iterJ (x20.length : Int) x1 x2 x3 x4 x5 x6 x7 x8 x9 x10 x11 x12 x13 x14 x15 x16 x17 x18 x19 x20 x21 x22 x23 x24 x25 x26 x27 x28 x29 x30 x31 x32 x33 x34 x35 x36 x37 x38 x39 x40 = R) : spec_l36Small.l4 dn iterJ 0 x1 x2 x3 x4 x5 x6 x7 x8 x9 x10 x11 x12 x13 x14 x15 x16 x17 x18 x19 x20 x21 x22 x23 x24 x25 x26 x27 x28 x29 x30 x31 x32 x33 x34 x35 x36 x37 x38 x39 x40 = bif decide (x20 = x40) then R else rB false := by
  have hm := ha.1
  refine eq_loop (l0 := fun i => spec_l36Small.l4 dn iterJ i x1 x2 x3 x4 x5 x6 x7 x8 x9 x10 x11 x12 x13 x14 x15 x16 x17 x18 x19 x20 x21 x22 x23 x24 x25 x26 x27 x28 x29 x30 x31 x32 x33 x34 x35 x36 x37 x38 x39 x40) (R := R) (F := rB false) hl hend fun i hi => ?_
  have hj : i < x40.length := hl ▸ hi
  obtain ⟨c0, c1, c2, c3, c4, c5, c6, c7, c8, c9, hrc⟩ := row149 (ha.2 _ (getD_mem hi (z := [])))
  obtain ⟨d0, d1, d2, d3, d4, d5, d6, d7, d8, d9, hrd⟩ := row149 (hb.2 _ (getD_mem hj (z := [])))
  rw [spec_l36Small.l4_eq fix, lt_nat hi, inRange_nat, inRange_nat, decide_eq_true hi, decide_eq_true hj, Int.toNat_natCast, wrap_nat (n := i) (by omega), hrc, hrd]
  simp (disch := assumption) only [Option.bind_some, Ret.u_mk, Ret.m_mk, List.getD_cons_zero, List.getD_cons_succ, U.toInt_int, U.toBool_bool, U.toStr_str, U.toLst_lst, cond_true, cond_false, Bool.and_true, eq_spec_EqualInts, eq_spec_l28Issuers, eq_spec_EqualStores, eq_spec_l27Revoked, eq_spec_l24Pairs, eq_spec_l27Saved, eq_slices_Equal, eq_slices_EqualFunc_2, eq_slices_Equal_11, eq_impl_EqualStores, eq_slices_Equal_6, eq_slices_Equal_7, eq_slices_Equal_10, eq_spec_EqualPolicies, eq_impl_EqualPolicies, eq_spec_EqualEpochs, eq_impl_EqualEpochs, eq_slices_EqualFunc_3, eq_spec_EqualPoints, eq_impl_EqualPoints, eq_slices_EqualFunc, eq_spec_l36Points, eq_impl_EqualCenters]
  by_cases e0 : c0 = d0
  rotate_left
  · simp [e0]
  by_cases e1 : c1 = d1
  rotate_left
  · simp [e1]
  by_cases e2 : c2 = d2
  rotate_left
  · simp [e2]
  by_cases e3 : c3 = d3
  rotate_left
  · simp [e3]
  by_cases e4 : c4 = d4
  rotate_left
  · simp [e4]
  by_cases e5 : c5 = d5
  rotate_left
  · simp [e5]
  by_cases e6 : c6 = d6
  rotate_left
  · simp [e6]
  by_cases e7 : c7 = d7
  rotate_left
  · simp [e7]
  by_cases e8 : c8 = d8
  rotate_left
  · simp [e8]
  by_cases e9 : c9 = d9
  rotate_left
  · have f9 : (c9 == d9) = false := by simpa using e9
    simp [e9, f9]
  simp [e0, e1, e2, e3, e4, e5, e6, e7, e8, e9]
end
end Go.Proofs.YtpkhifegfpehpaaGreat.Eng
