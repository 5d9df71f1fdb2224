/- Comparing functions, written by a program of ours (wip/bin/eqgen.py) for this claim. -/
import Derived.Test.YtpkhifegfpehpaaGreatPW1
namespace Go.Proofs.YtpkhifegfpehpaaGreat.Eng
open Go.RowKit
section
open Classical
set_option linter.unusedVariables false
set_option linter.unusedSimpArgs false
set_option maxRecDepth 100000
theorem eq_spec_EqualInts (a b : List (List U)) (ha : WR tabs.ct 3 a) (hb : WR tabs.ct 3 b) : spec_EqualInts.c dn a b = rB (decide (a = b)) := by
  rw [spec_EqualInts.eq fix]
  have hm := ha.1
  by_cases hl : a.length = b.length
  · rw [decide_eq_true (by omega : (a.length : Int) = (b.length : Int)), Bool.not_true, cond_false]
    refine (eq_loop (l0 := fun i => spec_EqualInts.l0 dn iterJ a b i) (R := rB true) (F := rB false) hl ?_ fun i hi => ?_).trans (by exact bif_dec _ _)
    · rw [spec_EqualInts.l0_eq fix, not_lt_nat (Nat.le_refl _)]; rfl
    · have hj : i < b.length := hl ▸ hi
      obtain ⟨c0, hrc⟩ := row3 (ha.2 _ (getD_mem hi (z := [])))
      obtain ⟨d0, hrd⟩ := row3 (hb.2 _ (getD_mem hj (z := [])))
      rw [spec_EqualInts.l0_eq fix, lt_nat hi, inRange_nat, inRange_nat, decide_eq_true hi, decide_eq_true hj, Int.toNat_natCast, wrap_nat (n := i) (by omega), hrc, hrd]
      simp (disch := assumption) only [Option.bind_some, Ret.u_mk, Ret.m_mk, List.getD_cons_zero, List.getD_cons_succ, U.toInt_int, U.toBool_bool, U.toStr_str, U.toLst_lst, cond_true, cond_false, Bool.and_true]
      by_cases e0 : c0 = d0
      rotate_left
      · simp [e0]
      simp [e0]
  · rw [decide_eq_false (by omega : ¬ (a.length : Int) = (b.length : Int)), decide_eq_false (fun h => hl (congrArg List.length h))]; rfl
theorem eq_spec_l28Issuers (a b : List (List U)) (ha : WR tabs.ct 220 a) (hb : WR tabs.ct 220 b) : spec_l28Issuers.c dn a b = rB (decide (a = b)) := by
  rw [spec_l28Issuers.eq fix]
  have hm := ha.1
  by_cases hl : a.length = b.length
  · rw [decide_eq_true (by omega : (a.length : Int) = (b.length : Int)), Bool.not_true, cond_false]
    refine (eq_loop (l0 := fun i => spec_l28Issuers.l0 dn iterJ a b i) (R := rB true) (F := rB false) hl ?_ fun i hi => ?_).trans (by exact bif_dec _ _)
    · rw [spec_l28Issuers.l0_eq fix, not_lt_nat (Nat.le_refl _)]; rfl
    · have hj : i < b.length := hl ▸ hi
      obtain ⟨c0, c1, c2, hrc, hc1⟩ := row220 (ha.2 _ (getD_mem hi (z := [])))
      obtain ⟨d0, d1, d2, hrd, hd1⟩ := row220 (hb.2 _ (getD_mem hj (z := [])))
      rw [spec_l28Issuers.l0_eq fix, lt_nat hi, inRange_nat, inRange_nat, decide_eq_true hi, decide_eq_true hj, Int.toNat_natCast, wrap_nat (n := i) (by omega), hrc, hrd]
      simp (disch := assumption) only [Option.bind_some, Ret.u_mk, Ret.m_mk, List.getD_cons_zero, List.getD_cons_succ, U.toInt_int, U.toBool_bool, U.toStr_str, U.toLst_lst, cond_true, cond_false, Bool.and_true, eq_spec_EqualInts]
      by_cases e0 : c0 = d0
      rotate_left
      · simp [e0]
      by_cases e1 : c1 = d1
      rotate_left
      · simp [e1]
      by_cases e2 : c2 = d2
      rotate_left
      · simp [e2]
      simp [e0, e1, e2]
  · rw [decide_eq_false (by omega : ¬ (a.length : Int) = (b.length : Int)), decide_eq_false (fun h => hl (congrArg List.length h))]; rfl
theorem eq_spec_EqualStores (a b : List (List U)) (ha : WR tabs.ct 235 a) (hb : WR tabs.ct 235 b) : spec_EqualStores.c dn a b = rB (decide (a = b)) := by
  rw [spec_EqualStores.eq fix]
  have hm := ha.1
  by_cases hl : a.length = b.length
  · rw [decide_eq_true (by omega : (a.length : Int) = (b.length : Int)), Bool.not_true, cond_false]
    refine (eq_loop (l0 := fun i => spec_EqualStores.l0 dn iterJ a b i) (R := rB true) (F := rB false) hl ?_ fun i hi => ?_).trans (by exact bif_dec _ _)
    · rw [spec_EqualStores.l0_eq fix, not_lt_nat (Nat.le_refl _)]; rfl
    · have hj : i < b.length := hl ▸ hi
      obtain ⟨c0, c1, c2, c3, c4, c5, hrc⟩ := row235 (ha.2 _ (getD_mem hi (z := [])))
      obtain ⟨d0, d1, d2, d3, d4, d5, hrd⟩ := row235 (hb.2 _ (getD_mem hj (z := [])))
      rw [spec_EqualStores.l0_eq fix, lt_nat hi, inRange_nat, inRange_nat, decide_eq_true hi, decide_eq_true hj, Int.toNat_natCast, wrap_nat (n := i) (by omega), hrc, hrd]
      simp (disch := assumption) only [Option.bind_some, Ret.u_mk, Ret.m_mk, List.getD_cons_zero, List.getD_cons_succ, U.toInt_int, U.toBool_bool, U.toStr_str, U.toLst_lst, cond_true, cond_false, Bool.and_true, eq_spec_EqualInts, eq_spec_l28Issuers]
      by_cases e0 : c0 = d0
      rotate_left
      · simp [e0]
      by_cases e1 : c1 = d1
      rotate_left
      · simp [e1]
      by_cases e2 : c2 = d2
      rotate_left
      · simp [e2]
      by_cases e3 : c3 = d3
      rotate_left
      · simp [e3]
      by_cases e4 : c4 = d4
      rotate_left
      · simp [e4]
      by_cases e5 : c5 = d5
      rotate_left
      · simp [e5]
      simp [e0, e1, e2, e3, e4, e5]
  · rw [decide_eq_false (by omega : ¬ (a.length : Int) = (b.length : Int)), decide_eq_false (fun h => hl (congrArg List.length h))]; rfl
theorem eq_spec_l27Revoked (a b : List (List U)) (ha : WR tabs.ct 209 a) (hb : WR tabs.ct 209 b) : spec_l27Revoked.c dn a b = rB (decide (a = b)) := by
  rw [spec_l27Revoked.eq fix]
  have hm := ha.1
  by_cases hl : a.length = b.length
  · rw [decide_eq_true (by omega : (a.length : Int) = (b.length : Int)), Bool.not_true, cond_false]
    refine (eq_loop (l0 := fun i => spec_l27Revoked.l0 dn iterJ a b i) (R := rB true) (F := rB false) hl ?_ fun i hi => ?_).trans (by exact bif_dec _ _)
    · rw [spec_l27Revoked.l0_eq fix, not_lt_nat (Nat.le_refl _)]; rfl
    · have hj : i < b.length := hl ▸ hi
      obtain ⟨c0, c1, hrc⟩ := row209 (ha.2 _ (getD_mem hi (z := [])))
      obtain ⟨d0, d1, hrd⟩ := row209 (hb.2 _ (getD_mem hj (z := [])))
      rw [spec_l27Revoked.l0_eq fix, lt_nat hi, inRange_nat, inRange_nat, decide_eq_true hi, decide_eq_true hj, Int.toNat_natCast, wrap_nat (n := i) (by omega), hrc, hrd]
      simp (disch := assumption) only [Option.bind_some, Ret.u_mk, Ret.m_mk, List.getD_cons_zero, List.getD_cons_succ, U.toInt_int, U.toBool_bool, U.toStr_str, U.toLst_lst, cond_true, cond_false, Bool.and_true, eq_spec_EqualInts, eq_spec_l28Issuers, eq_spec_EqualStores]
      by_cases e0 : c0 = d0
      rotate_left
      · simp [e0]
      by_cases e1 : c1 = d1
      rotate_left
      · simp [e1]
      simp [e0, e1]
  · rw [decide_eq_false (by omega : ¬ (a.length : Int) = (b.length : Int)), decide_eq_false (fun h => hl (congrArg List.length h))]; rfl
theorem eq_spec_l24Pairs (a b : List (List U)) (ha : WR tabs.ct 254 a) (hb : WR tabs.ct 254 b) : spec_l24Pairs.c dn a b = rB (decide (a = b)) := by
  rw [spec_l24Pairs.eq fix]
  have hm := ha.1
  by_cases hl : a.length = b.length
  · rw [decide_eq_true (by omega : (a.length : Int) = (b.length : Int)), Bool.not_true, cond_false]
    refine (eq_loop (l0 := fun i => spec_l24Pairs.l0 dn iterJ a b i) (R := rB true) (F := rB false) hl ?_ fun i hi => ?_).trans (by exact bif_dec _ _)
    · rw [spec_l24Pairs.l0_eq fix, not_lt_nat (Nat.le_refl _)]; rfl
    · have hj : i < b.length := hl ▸ hi
      obtain ⟨c0, c1, hrc⟩ := row254 (ha.2 _ (getD_mem hi (z := [])))
      obtain ⟨d0, d1, hrd⟩ := row254 (hb.2 _ (getD_mem hj (z := [])))
      rw [spec_l24Pairs.l0_eq fix, lt_nat hi, inRange_nat, inRange_nat, decide_eq_true hi, decide_eq_true hj, Int.toNat_natCast, wrap_nat (n := i) (by omega), hrc, hrd]
      simp (disch := assumption) only [Option.bind_some, Ret.u_mk, Ret.m_mk, List.getD_cons_zero, List.getD_cons_succ, U.toInt_int, U.toBool_bool, U.toStr_str, U.toLst_lst, cond_true, cond_false, Bool.and_true, eq_spec_EqualInts, eq_spec_l28Issuers, eq_spec_EqualStores, eq_spec_l27Revoked]
      by_cases e0 : c0 = d0
      rotate_left
      · simp [e0]
      by_cases e1 : c1 = d1
      rotate_left
      · simp [e1]
      simp [e0, e1]
  · rw [decide_eq_false (by omega : ¬ (a.length : Int) = (b.length : Int)), decide_eq_false (fun h => hl (congrArg List.length h))]; rfl
theorem eq_spec_l27Saved (a b : List (List U)) (ha : WR tabs.ct 225 a) (hb : WR tabs.ct 225 b) : spec_l27Saved.c dn a b = rB (decide (a = b)) := by
  rw [spec_l27Saved.eq fix]
  have hm := ha.1
  by_cases hl : a.length = b.length
  · rw [decide_eq_true (by omega : (a.length : Int) = (b.length : Int)), Bool.not_true, cond_false]
    refine (eq_loop (l0 := fun i => spec_l27Saved.l0 dn iterJ a b i) (R := rB true) (F := rB false) hl ?_ fun i hi => ?_).trans (by exact bif_dec _ _)
    · rw [spec_l27Saved.l0_eq fix, not_lt_nat (Nat.le_refl _)]; rfl
    · have hj : i < b.length := hl ▸ hi
      obtain ⟨c0, c1, c2, c3, c4, c5, c6, c7, hrc⟩ := row225 (ha.2 _ (getD_mem hi (z := [])))
      obtain ⟨d0, d1, d2, d3, d4, d5, d6, d7, hrd⟩ := row225 (hb.2 _ (getD_mem hj (z := [])))
      rw [spec_l27Saved.l0_eq fix, lt_nat hi, inRange_nat, inRange_nat, decide_eq_true hi, decide_eq_true hj, Int.toNat_natCast, wrap_nat (n := i) (by omega), hrc, hrd]
      simp (disch := assumption) only [Option.bind_some, Ret.u_mk, Ret.m_mk, List.getD_cons_zero, List.getD_cons_succ, U.toInt_int, U.toBool_bool, U.toStr_str, U.toLst_lst, cond_true, cond_false, Bool.and_true, eq_spec_EqualInts, eq_spec_l28Issuers, eq_spec_EqualStores, eq_spec_l27Revoked, eq_spec_l24Pairs]
      by_cases e0 : c0 = d0
      rotate_left
      · simp [e0]
      by_cases e1 : c1 = d1
      rotate_left
      · simp [e1]
      by_cases e2 : c2 = d2
      rotate_left
      · simp [e2]
      by_cases e3 : c3 = d3
      rotate_left
      · simp [e3]
      by_cases e4 : c4 = d4
      rotate_left
      · simp [e4]
      by_cases e5 : c5 = d5
      rotate_left
      · simp [e5]
      by_cases e6 : c6 = d6
      rotate_left
      · simp [e6]
      by_cases e7 : c7 = d7
      rotate_left
      · simp [e7]
      simp [e0, e1, e2, e3, e4, e5, e6, e7]
  · rw [decide_eq_false (by omega : ¬ (a.length : Int) = (b.length : Int)), decide_eq_false (fun h => hl (congrArg List.length h))]; rfl
theorem eq_spec_EqualGrants (a b : List (List U)) (ha : WR tabs.ct 183 a) (hb : WR tabs.ct 183 b) : spec_EqualGrants.c dn a b = rB (decide (a = b)) := by
  rw [spec_EqualGrants.eq fix]
  have hm := ha.1
  by_cases hl : a.length = b.length
  · rw [decide_eq_true (by omega : (a.length : Int) = (b.length : Int)), Bool.not_true, cond_false]
    refine (eq_loop (l0 := fun i => spec_EqualGrants.l0 dn iterJ a b i) (R := rB true) (F := rB false) hl ?_ fun i hi => ?_).trans (by exact bif_dec _ _)
    · rw [spec_EqualGrants.l0_eq fix, not_lt_nat (Nat.le_refl _)]; rfl
    · have hj : i < b.length := hl ▸ hi
      obtain ⟨c0, c1, c2, c3, c4, c5, c6, hrc, hc3⟩ := row183 (ha.2 _ (getD_mem hi (z := [])))
      obtain ⟨d0, d1, d2, d3, d4, d5, d6, hrd, hd3⟩ := row183 (hb.2 _ (getD_mem hj (z := [])))
      rw [spec_EqualGrants.l0_eq fix, lt_nat hi, inRange_nat, inRange_nat, decide_eq_true hi, decide_eq_true hj, Int.toNat_natCast, wrap_nat (n := i) (by omega), hrc, hrd]
      simp (disch := assumption) only [Option.bind_some, Ret.u_mk, Ret.m_mk, List.getD_cons_zero, List.getD_cons_succ, U.toInt_int, U.toBool_bool, U.toStr_str, U.toLst_lst, cond_true, cond_false, Bool.and_true, eq_spec_EqualInts, eq_spec_l28Issuers, eq_spec_EqualStores, eq_spec_l27Revoked, eq_spec_l24Pairs, eq_spec_l27Saved]
      by_cases e0 : c0 = d0
      rotate_left
      · simp [e0]
      by_cases e1 : c1 = d1
      rotate_left
      · simp [e1]
      by_cases e2 : c2 = d2
      rotate_left
      · simp [e2]
      by_cases e3 : c3 = d3
      rotate_left
      · simp [e3]
      by_cases e4 : c4 = d4
      rotate_left
      · simp [e4]
      by_cases e5 : c5 = d5
      rotate_left
      · simp [e5]
      by_cases e6 : c6 = d6
      rotate_left
      · have f6 : (c6 == d6) = false := by simpa using e6
        simp [e6, f6]
      simp [e0, e1, e2, e3, e4, e5, e6]
  · rw [decide_eq_false (by omega : ¬ (a.length : Int) = (b.length : Int)), decide_eq_false (fun h => hl (congrArg List.length h))]; rfl
theorem eq_spec_EqualEmergencies (a b : List (List U)) (ha : WR tabs.ct 119 a) (hb : WR tabs.ct 119 b) : spec_EqualEmergencies.c dn a b = rB (decide (a = b)) := by
  rw [spec_EqualEmergencies.eq fix]
  have hm := ha.1
  by_cases hl : a.length = b.length
  · rw [decide_eq_true (by omega : (a.length : Int) = (b.length : Int)), Bool.not_true, cond_false]
    refine (eq_loop (l0 := fun i => spec_EqualEmergencies.l0 dn iterJ a b i) (R := rB true) (F := rB false) hl ?_ fun i hi => ?_).trans (by exact bif_dec _ _)
    · rw [spec_EqualEmergencies.l0_eq fix, not_lt_nat (Nat.le_refl _)]; rfl
    · have hj : i < b.length := hl ▸ hi
      obtain ⟨c0, c1, c2, c3, c4, c5, hrc, hc4⟩ := row119 (ha.2 _ (getD_mem hi (z := [])))
      obtain ⟨d0, d1, d2, d3, d4, d5, hrd, hd4⟩ := row119 (hb.2 _ (getD_mem hj (z := [])))
      rw [spec_EqualEmergencies.l0_eq fix, lt_nat hi, inRange_nat, inRange_nat, decide_eq_true hi, decide_eq_true hj, Int.toNat_natCast, wrap_nat (n := i) (by omega), hrc, hrd]
      simp (disch := assumption) only [Option.bind_some, Ret.u_mk, Ret.m_mk, List.getD_cons_zero, List.getD_cons_succ, U.toInt_int, U.toBool_bool, U.toStr_str, U.toLst_lst, cond_true, cond_false, Bool.and_true, eq_spec_EqualInts, eq_spec_l28Issuers, eq_spec_EqualStores, eq_spec_l27Revoked, eq_spec_l24Pairs, eq_spec_l27Saved, eq_spec_EqualGrants]
      by_cases e0 : c0 = d0
      rotate_left
      · simp [e0]
      by_cases e1 : c1 = d1
      rotate_left
      · simp [e1]
      by_cases e2 : c2 = d2
      rotate_left
      · simp [e2]
      by_cases e3 : c3 = d3
      rotate_left
      · simp [e3]
      by_cases e4 : c4 = d4
      rotate_left
      · simp [e4]
      by_cases e5 : c5 = d5
      rotate_left
      · have f5 : (c5 == d5) = false := by simpa using e5
        simp [e5, f5]
      simp [e0, e1, e2, e3, e4, e5]
  · rw [decide_eq_false (by omega : ¬ (a.length : Int) = (b.length : Int)), decide_eq_false (fun h => hl (congrArg List.length h))]; rfl
theorem eq_slices_Equal (a b : List (List U)) (ha : WR tabs.ct 3 a) (hb : WR tabs.ct 3 b) : slices_Equal.c dn a b = rB (decide (a = b)) := by
  rw [slices_Equal.eq fix]
  have hm := ha.1
  by_cases hl : a.length = b.length
  · rw [decide_eq_true (by omega : (a.length : Int) = (b.length : Int)), Bool.not_true, cond_false]
    refine (eq_loop (l0 := fun i => slices_Equal.l0 dn iterJ a b (a.length : Int) i) (R := rB true) (F := rB false) hl ?_ fun i hi => ?_).trans (by exact bif_dec _ _)
    · rw [slices_Equal.l0_eq fix, not_lt_nat (Nat.le_refl _)]; rfl
    · have hj : i < b.length := hl ▸ hi
      obtain ⟨c0, hrc⟩ := row3 (ha.2 _ (getD_mem hi (z := [])))
      obtain ⟨d0, hrd⟩ := row3 (hb.2 _ (getD_mem hj (z := [])))
      rw [slices_Equal.l0_eq fix, lt_nat hi, inRange_nat, inRange_nat, decide_eq_true hi, decide_eq_true hj, Int.toNat_natCast, wrap_nat (n := i) (by omega), hrc, hrd]
      simp (disch := assumption) only [Option.bind_some, Ret.u_mk, Ret.m_mk, List.getD_cons_zero, List.getD_cons_succ, U.toInt_int, U.toBool_bool, U.toStr_str, U.toLst_lst, cond_true, cond_false, Bool.and_true, eq_spec_EqualInts, eq_spec_l28Issuers, eq_spec_EqualStores, eq_spec_l27Revoked, eq_spec_l24Pairs, eq_spec_l27Saved, eq_spec_EqualGrants, eq_spec_EqualEmergencies]
      by_cases e0 : c0 = d0
      rotate_left
      · simp [e0]
      simp [e0]
  · rw [decide_eq_false (by omega : ¬ (a.length : Int) = (b.length : Int)), decide_eq_false (fun h => hl (congrArg List.length h))]; rfl
theorem eq_impl_equalIssuers (c0 d0 : Int) (c1 d1 : List (List U)) (c2 d2 : Int) (hc1 : WR tabs.ct 3 c1) (hd1 : WR tabs.ct 3 d1) : impl_equalIssuers.c dn c0 c1 c2 d0 d1 d2 = rB (decide (c0 = d0 ∧ c1 = d1 ∧ c2 = d2)) := by
  rw [impl_equalIssuers.eq fix]
  simp (disch := assumption) only [Option.bind_some, Ret.u_mk, Ret.m_mk, List.getD_cons_zero, List.getD_cons_succ, U.toInt_int, U.toBool_bool, U.toStr_str, U.toLst_lst, cond_true, cond_false, Bool.and_true, eq_spec_EqualInts, eq_spec_l28Issuers, eq_spec_EqualStores, eq_spec_l27Revoked, eq_spec_l24Pairs, eq_spec_l27Saved, eq_spec_EqualGrants, eq_spec_EqualEmergencies, eq_slices_Equal]
  by_cases e0 : c0 = d0
  rotate_left
  · simp [e0]
  by_cases e1 : c1 = d1
  rotate_left
  · simp [e1]
  by_cases e2 : c2 = d2
  rotate_left
  · simp [e2]
  simp [e0, e1, e2]
theorem eq_slices_EqualFunc_2 (a b : List (List U)) (ha : WR tabs.ct 220 a) (hb : WR tabs.ct 220 b) : slices_EqualFunc_2.c dn a b = rB (decide (a = b)) := by
  rw [slices_EqualFunc_2.eq fix]
  have hm := ha.1
  by_cases hl : a.length = b.length
  · rw [decide_eq_true (by omega : (a.length : Int) = (b.length : Int)), Bool.not_true, cond_false]
    refine (eq_loop (l0 := fun i => slices_EqualFunc_2.l0 dn iterJ b a (a.length : Int) i) (R := rB true) (F := rB false) hl ?_ fun i hi => ?_).trans (by exact bif_dec _ _)
    · rw [slices_EqualFunc_2.l0_eq fix, not_lt_nat (Nat.le_refl _)]; rfl
    · have hj : i < b.length := hl ▸ hi
      obtain ⟨c0, c1, c2, hrc, hc1⟩ := row220 (ha.2 _ (getD_mem hi (z := [])))
      obtain ⟨d0, d1, d2, hrd, hd1⟩ := row220 (hb.2 _ (getD_mem hj (z := [])))
      rw [slices_EqualFunc_2.l0_eq fix, lt_nat hi, inRange_nat, inRange_nat, decide_eq_true hi, decide_eq_true hj, Int.toNat_natCast, wrap_nat (n := i) (by omega), hrc, hrd]
      simp (disch := assumption) only [Option.bind_some, Ret.u_mk, Ret.m_mk, List.getD_cons_zero, List.getD_cons_succ, U.toInt_int, U.toBool_bool, U.toStr_str, U.toLst_lst, cond_true, cond_false, Bool.and_true, eq_spec_EqualInts, eq_spec_l28Issuers, eq_spec_EqualStores, eq_spec_l27Revoked, eq_spec_l24Pairs, eq_spec_l27Saved, eq_spec_EqualGrants, eq_spec_EqualEmergencies, eq_slices_Equal, eq_impl_equalIssuers]
      by_cases e0 : c0 = d0
      rotate_left
      · simp [e0]
      by_cases e1 : c1 = d1
      rotate_left
      · simp [e1]
      by_cases e2 : c2 = d2
      rotate_left
      · simp [e2]
      simp [e0, e1, e2]
  · rw [decide_eq_false (by omega : ¬ (a.length : Int) = (b.length : Int)), decide_eq_false (fun h => hl (congrArg List.length h))]; rfl
theorem eq_slices_Equal_11 (a b : List (List U)) (ha : WR tabs.ct 254 a) (hb : WR tabs.ct 254 b) : slices_Equal_11.c dn a b = rB (decide (a = b)) := by
  rw [slices_Equal_11.eq fix]
  have hm := ha.1
  by_cases hl : a.length = b.length
  · rw [decide_eq_true (by omega : (a.length : Int) = (b.length : Int)), Bool.not_true, cond_false]
    refine (eq_loop (l0 := fun i => slices_Equal_11.l0 dn iterJ a b (a.length : Int) i) (R := rB true) (F := rB false) hl ?_ fun i hi => ?_).trans (by exact bif_dec _ _)
    · rw [slices_Equal_11.l0_eq fix, not_lt_nat (Nat.le_refl _)]; rfl
    · have hj : i < b.length := hl ▸ hi
      obtain ⟨c0, c1, hrc⟩ := row254 (ha.2 _ (getD_mem hi (z := [])))
      obtain ⟨d0, d1, hrd⟩ := row254 (hb.2 _ (getD_mem hj (z := [])))
      rw [slices_Equal_11.l0_eq fix, lt_nat hi, inRange_nat, inRange_nat, decide_eq_true hi, decide_eq_true hj, Int.toNat_natCast, wrap_nat (n := i) (by omega), hrc, hrd]
      simp (disch := assumption) only [Option.bind_some, Ret.u_mk, Ret.m_mk, List.getD_cons_zero, List.getD_cons_succ, U.toInt_int, U.toBool_bool, U.toStr_str, U.toLst_lst, cond_true, cond_false, Bool.and_true, eq_spec_EqualInts, eq_spec_l28Issuers, eq_spec_EqualStores, eq_spec_l27Revoked, eq_spec_l24Pairs, eq_spec_l27Saved, eq_spec_EqualGrants, eq_spec_EqualEmergencies, eq_slices_Equal, eq_impl_equalIssuers, eq_slices_EqualFunc_2]
      by_cases e0 : c0 = d0
      rotate_left
      · simp [e0]
      by_cases e1 : c1 = d1
      rotate_left
      · simp [e1]
      simp [e0, e1]
  · rw [decide_eq_false (by omega : ¬ (a.length : Int) = (b.length : Int)), decide_eq_false (fun h => hl (congrArg List.length h))]; rfl
theorem eq_slices_Equal_9 (a b : List (List U)) (ha : WR tabs.ct 235 a) (hb : WR tabs.ct 235 b) : slices_Equal_9.c dn a b = rB (decide (a = b)) := by
  rw [slices_Equal_9.eq fix]
  have hm := ha.1
  by_cases hl : a.length = b.length
  · rw [decide_eq_true (by omega : (a.length : Int) = (b.length : Int)), Bool.not_true, cond_false]
    refine (eq_loop (l0 := fun i => slices_Equal_9.l0 dn iterJ a b (a.length : Int) i) (R := rB true) (F := rB false) hl ?_ fun i hi => ?_).trans (by exact bif_dec _ _)
    · rw [slices_Equal_9.l0_eq fix, not_lt_nat (Nat.le_refl _)]; rfl
    · have hj : i < b.length := hl ▸ hi
      obtain ⟨c0, c1, c2, c3, c4, c5, hrc⟩ := row235 (ha.2 _ (getD_mem hi (z := [])))
      obtain ⟨d0, d1, d2, d3, d4, d5, hrd⟩ := row235 (hb.2 _ (getD_mem hj (z := [])))
      rw [slices_Equal_9.l0_eq fix, lt_nat hi, inRange_nat, inRange_nat, decide_eq_true hi, decide_eq_true hj, Int.toNat_natCast, wrap_nat (n := i) (by omega), hrc, hrd]
      simp (disch := assumption) only [Option.bind_some, Ret.u_mk, Ret.m_mk, List.getD_cons_zero, List.getD_cons_succ, U.toInt_int, U.toBool_bool, U.toStr_str, U.toLst_lst, cond_true, cond_false, Bool.and_true, eq_spec_EqualInts, eq_spec_l28Issuers, eq_spec_EqualStores, eq_spec_l27Revoked, eq_spec_l24Pairs, eq_spec_l27Saved, eq_spec_EqualGrants, eq_spec_EqualEmergencies, eq_slices_Equal, eq_impl_equalIssuers, eq_slices_EqualFunc_2, eq_slices_Equal_11]
      by_cases e0 : c0 = d0
      rotate_left
      · simp [e0]
      by_cases e1 : c1 = d1
      rotate_left
      · simp [e1]
      by_cases e2 : c2 = d2
      rotate_left
      · simp [e2]
      by_cases e3 : c3 = d3
      rotate_left
      · simp [e3]
      by_cases e4 : c4 = d4
      rotate_left
      · simp [e4]
      by_cases e5 : c5 = d5
      rotate_left
      · simp [e5]
      simp [e0, e1, e2, e3, e4, e5]
  · rw [decide_eq_false (by omega : ¬ (a.length : Int) = (b.length : Int)), decide_eq_false (fun h => hl (congrArg List.length h))]; rfl
theorem eq_impl_EqualStores (a b : List (List U)) (ha : WR tabs.ct 235 a) (hb : WR tabs.ct 235 b) : impl_EqualStores.c dn a b = rB (decide (a = b)) := by
  rw [impl_EqualStores.eq fix]
  simp (disch := assumption) only [Option.bind_some, Ret.u_mk, Ret.m_mk, List.getD_cons_zero, List.getD_cons_succ, U.toInt_int, U.toBool_bool, U.toStr_str, U.toLst_lst, cond_true, cond_false, Bool.and_true, eq_spec_EqualInts, eq_spec_l28Issuers, eq_spec_EqualStores, eq_spec_l27Revoked, eq_spec_l24Pairs, eq_spec_l27Saved, eq_spec_EqualGrants, eq_spec_EqualEmergencies, eq_slices_Equal, eq_impl_equalIssuers, eq_slices_EqualFunc_2, eq_slices_Equal_11, eq_slices_Equal_9]
theorem eq_slices_Equal_6 (a b : List (List U)) (ha : WR tabs.ct 209 a) (hb : WR tabs.ct 209 b) : slices_Equal_6.c dn a b = rB (decide (a = b)) := by
  rw [slices_Equal_6.eq fix]
  have hm := ha.1
  by_cases hl : a.length = b.length
  · rw [decide_eq_true (by omega : (a.length : Int) = (b.length : Int)), Bool.not_true, cond_false]
    refine (eq_loop (l0 := fun i => slices_Equal_6.l0 dn iterJ a b (a.length : Int) i) (R := rB true) (F := rB false) hl ?_ fun i hi => ?_).trans (by exact bif_dec _ _)
    · rw [slices_Equal_6.l0_eq fix, not_lt_nat (Nat.le_refl _)]; rfl
    · have hj : i < b.length := hl ▸ hi
      obtain ⟨c0, c1, hrc⟩ := row209 (ha.2 _ (getD_mem hi (z := [])))
      obtain ⟨d0, d1, hrd⟩ := row209 (hb.2 _ (getD_mem hj (z := [])))
      rw [slices_Equal_6.l0_eq fix, lt_nat hi, inRange_nat, inRange_nat, decide_eq_true hi, decide_eq_true hj, Int.toNat_natCast, wrap_nat (n := i) (by omega), hrc, hrd]
      simp (disch := assumption) only [Option.bind_some, Ret.u_mk, Ret.m_mk, List.getD_cons_zero, List.getD_cons_succ, U.toInt_int, U.toBool_bool, U.toStr_str, U.toLst_lst, cond_true, cond_false, Bool.and_true, eq_spec_EqualInts, eq_spec_l28Issuers, eq_spec_EqualStores, eq_spec_l27Revoked, eq_spec_l24Pairs, eq_spec_l27Saved, eq_spec_EqualGrants, eq_spec_EqualEmergencies, eq_slices_Equal, eq_impl_equalIssuers, eq_slices_EqualFunc_2, eq_slices_Equal_11, eq_slices_Equal_9, eq_impl_EqualStores]
      by_cases e0 : c0 = d0
      rotate_left
      · simp [e0]
      by_cases e1 : c1 = d1
      rotate_left
      · simp [e1]
      simp [e0, e1]
  · rw [decide_eq_false (by omega : ¬ (a.length : Int) = (b.length : Int)), decide_eq_false (fun h => hl (congrArg List.length h))]; rfl
theorem eq_slices_Equal_7 (a b : List (List U)) (ha : WR tabs.ct 69 a) (hb : WR tabs.ct 69 b) : slices_Equal_7.c dn a b = rB (decide (a = b)) := by
  rw [slices_Equal_7.eq fix]
  have hm := ha.1
  by_cases hl : a.length = b.length
  · rw [decide_eq_true (by omega : (a.length : Int) = (b.length : Int)), Bool.not_true, cond_false]
    refine (eq_loop (l0 := fun i => slices_Equal_7.l0 dn iterJ a b (a.length : Int) i) (R := rB true) (F := rB false) hl ?_ fun i hi => ?_).trans (by exact bif_dec _ _)
    · rw [slices_Equal_7.l0_eq fix, not_lt_nat (Nat.le_refl _)]; rfl
    · have hj : i < b.length := hl ▸ hi
      obtain ⟨c0, c1, c2, c3, c4, c5, hrc⟩ := row69 (ha.2 _ (getD_mem hi (z := [])))
      obtain ⟨d0, d1, d2, d3, d4, d5, hrd⟩ := row69 (hb.2 _ (getD_mem hj (z := [])))
      rw [slices_Equal_7.l0_eq fix, lt_nat hi, inRange_nat, inRange_nat, decide_eq_true hi, decide_eq_true hj, Int.toNat_natCast, wrap_nat (n := i) (by omega), hrc, hrd]
      simp (disch := assumption) only [Option.bind_some, Ret.u_mk, Ret.m_mk, List.getD_cons_zero, List.getD_cons_succ, U.toInt_int, U.toBool_bool, U.toStr_str, U.toLst_lst, cond_true, cond_false, Bool.and_true, eq_spec_EqualInts, eq_spec_l28Issuers, eq_spec_EqualStores, eq_spec_l27Revoked, eq_spec_l24Pairs, eq_spec_l27Saved, eq_spec_EqualGrants, eq_spec_EqualEmergencies, eq_slices_Equal, eq_impl_equalIssuers, eq_slices_EqualFunc_2, eq_slices_Equal_11, eq_slices_Equal_9, eq_impl_EqualStores, eq_slices_Equal_6]
      by_cases e0 : c0 = d0
      rotate_left
      · simp [e0]
      by_cases e1 : c1 = d1
      rotate_left
      · simp [e1]
      by_cases e2 : c2 = d2
      rotate_left
      · simp [e2]
      by_cases e3 : c3 = d3
      rotate_left
      · simp [e3]
      by_cases e4 : c4 = d4
      rotate_left
      · simp [e4]
      by_cases e5 : c5 = d5
      rotate_left
      · simp [e5]
      simp [e0, e1, e2, e3, e4, e5]
  · rw [decide_eq_false (by omega : ¬ (a.length : Int) = (b.length : Int)), decide_eq_false (fun h => hl (congrArg List.length h))]; rfl
theorem eq_slices_Equal_10 (a b : List (List U)) (ha : WR tabs.ct 225 a) (hb : WR tabs.ct 225 b) : slices_Equal_10.c dn a b = rB (decide (a = b)) := by
  rw [slices_Equal_10.eq fix]
  have hm := ha.1
  by_cases hl : a.length = b.length
  · rw [decide_eq_true (by omega : (a.length : Int) = (b.length : Int)), Bool.not_true, cond_false]
    refine (eq_loop (l0 := fun i => slices_Equal_10.l0 dn iterJ a b (a.length : Int) i) (R := rB true) (F := rB false) hl ?_ fun i hi => ?_).trans (by exact bif_dec _ _)
    · rw [slices_Equal_10.l0_eq fix, not_lt_nat (Nat.le_refl _)]; rfl
    · have hj : i < b.length := hl ▸ hi
      obtain ⟨c0, c1, c2, c3, c4, c5, c6, c7, hrc⟩ := row225 (ha.2 _ (getD_mem hi (z := [])))
      obtain ⟨d0, d1, d2, d3, d4, d5, d6, d7, hrd⟩ := row225 (hb.2 _ (getD_mem hj (z := [])))
      rw [slices_Equal_10.l0_eq fix, lt_nat hi, inRange_nat, inRange_nat, decide_eq_true hi, decide_eq_true hj, Int.toNat_natCast, wrap_nat (n := i) (by omega), hrc, hrd]
      simp (disch := assumption) only [Option.bind_some, Ret.u_mk, Ret.m_mk, List.getD_cons_zero, List.getD_cons_succ, U.toInt_int, U.toBool_bool, U.toStr_str, U.toLst_lst, cond_true, cond_false, Bool.and_true, eq_spec_EqualInts, eq_spec_l28Issuers, eq_spec_EqualStores, eq_spec_l27Revoked, eq_spec_l24Pairs, eq_spec_l27Saved, eq_spec_EqualGrants, eq_spec_EqualEmergencies, eq_slices_Equal, eq_impl_equalIssuers, eq_slices_EqualFunc_2, eq_slices_Equal_11, eq_slices_Equal_9, eq_impl_EqualStores, eq_slices_Equal_6, eq_slices_Equal_7]
      by_cases e0 : c0 = d0
      rotate_left
      · simp [e0]
      by_cases e1 : c1 = d1
      rotate_left
      · simp [e1]
      by_cases e2 : c2 = d2
      rotate_left
      · simp [e2]
      by_cases e3 : c3 = d3
      rotate_left
      · simp [e3]
      by_cases e4 : c4 = d4
      rotate_left
      · simp [e4]
      by_cases e5 : c5 = d5
      rotate_left
      · simp [e5]
      by_cases e6 : c6 = d6
      rotate_left
      · simp [e6]
      by_cases e7 : c7 = d7
      rotate_left
      · simp [e7]
      simp [e0, e1, e2, e3, e4, e5, e6, e7]
  · rw [decide_eq_false (by omega : ¬ (a.length : Int) = (b.length : Int)), decide_eq_false (fun h => hl (congrArg List.length h))]; rfl
theorem eq_slices_Equal_1 (a b : List (List U)) (ha : WR tabs.ct 4 a) (hb : WR tabs.ct 4 b) : slices_Equal_1.c dn a b = rB (decide (a = b)) := by
  rw [slices_Equal_1.eq fix]
  have hm := ha.1
  by_cases hl : a.length = b.length
  · rw [decide_eq_true (by omega : (a.length : Int) = (b.length : Int)), Bool.not_true, cond_false]
    refine (eq_loop (l0 := fun i => slices_Equal_1.l0 dn iterJ a b (a.length : Int) i) (R := rB true) (F := rB false) hl ?_ fun i hi => ?_).trans (by exact bif_dec _ _)
    · rw [slices_Equal_1.l0_eq fix, not_lt_nat (Nat.le_refl _)]; rfl
    · have hj : i < b.length := hl ▸ hi
      obtain ⟨c0, hrc⟩ := row4 (ha.2 _ (getD_mem hi (z := [])))
      obtain ⟨d0, hrd⟩ := row4 (hb.2 _ (getD_mem hj (z := [])))
      rw [slices_Equal_1.l0_eq fix, lt_nat hi, inRange_nat, inRange_nat, decide_eq_true hi, decide_eq_true hj, Int.toNat_natCast, wrap_nat (n := i) (by omega), hrc, hrd]
      simp (disch := assumption) only [Option.bind_some, Ret.u_mk, Ret.m_mk, List.getD_cons_zero, List.getD_cons_succ, U.toInt_int, U.toBool_bool, U.toStr_str, U.toLst_lst, cond_true, cond_false, Bool.and_true, eq_spec_EqualInts, eq_spec_l28Issuers, eq_spec_EqualStores, eq_spec_l27Revoked, eq_spec_l24Pairs, eq_spec_l27Saved, eq_spec_EqualGrants, eq_spec_EqualEmergencies, eq_slices_Equal, eq_impl_equalIssuers, eq_slices_EqualFunc_2, eq_slices_Equal_11, eq_slices_Equal_9, eq_impl_EqualStores, eq_slices_Equal_6, eq_slices_Equal_7, eq_slices_Equal_10]
      by_cases e0 : c0 = d0
      rotate_left
      · have f0 : (c0 == d0) = false := by simpa using e0
        simp [e0, f0]
      simp [e0]
  · rw [decide_eq_false (by omega : ¬ (a.length : Int) = (b.length : Int)), decide_eq_false (fun h => hl (congrArg List.length h))]; rfl
theorem eq_slices_Equal_8 (a b : List (List U)) (ha : WR tabs.ct 112 a) (hb : WR tabs.ct 112 b) : slices_Equal_8.c dn a b = rB (decide (a = b)) := by
  rw [slices_Equal_8.eq fix]
  have hm := ha.1
  by_cases hl : a.length = b.length
  · rw [decide_eq_true (by omega : (a.length : Int) = (b.length : Int)), Bool.not_true, cond_false]
    refine (eq_loop (l0 := fun i => slices_Equal_8.l0 dn iterJ a b (a.length : Int) i) (R := rB true) (F := rB false) hl ?_ fun i hi => ?_).trans (by exact bif_dec _ _)
    · rw [slices_Equal_8.l0_eq fix, not_lt_nat (Nat.le_refl _)]; rfl
    · have hj : i < b.length := hl ▸ hi
      obtain ⟨c0, c1, c2, c3, c4, c5, c6, c7, c8, hrc⟩ := row112 (ha.2 _ (getD_mem hi (z := [])))
      obtain ⟨d0, d1, d2, d3, d4, d5, d6, d7, d8, hrd⟩ := row112 (hb.2 _ (getD_mem hj (z := [])))
      rw [slices_Equal_8.l0_eq fix, lt_nat hi, inRange_nat, inRange_nat, decide_eq_true hi, decide_eq_true hj, Int.toNat_natCast, wrap_nat (n := i) (by omega), hrc, hrd]
      simp (disch := assumption) only [Option.bind_some, Ret.u_mk, Ret.m_mk, List.getD_cons_zero, List.getD_cons_succ, U.toInt_int, U.toBool_bool, U.toStr_str, U.toLst_lst, cond_true, cond_false, Bool.and_true, eq_spec_EqualInts, eq_spec_l28Issuers, eq_spec_EqualStores, eq_spec_l27Revoked, eq_spec_l24Pairs, eq_spec_l27Saved, eq_spec_EqualGrants, eq_spec_EqualEmergencies, eq_slices_Equal, eq_impl_equalIssuers, eq_slices_EqualFunc_2, eq_slices_Equal_11, eq_slices_Equal_9, eq_impl_EqualStores, eq_slices_Equal_6, eq_slices_Equal_7, eq_slices_Equal_10, eq_slices_Equal_1]
      by_cases e0 : c0 = d0
      rotate_left
      · simp [e0]
      by_cases e1 : c1 = d1
      rotate_left
      · simp [e1]
      by_cases e2 : c2 = d2
      rotate_left
      · simp [e2]
      by_cases e3 : c3 = d3
      rotate_left
      · simp [e3]
      by_cases e4 : c4 = d4
      rotate_left
      · simp [e4]
      by_cases e5 : c5 = d5
      rotate_left
      · simp [e5]
      by_cases e6 : c6 = d6
      rotate_left
      · simp [e6]
      by_cases e7 : c7 = d7
      rotate_left
      · simp [e7]
      by_cases e8 : c8 = d8
      rotate_left
      · simp [e8]
      simp [e0, e1, e2, e3, e4, e5, e6, e7, e8]
  · rw [decide_eq_false (by omega : ¬ (a.length : Int) = (b.length : Int)), decide_eq_false (fun h => hl (congrArg List.length h))]; rfl
theorem eq_slices_EqualFunc_1 (a b : List (List U)) (ha : WR tabs.ct 109 a) (hb : WR tabs.ct 109 b) : slices_EqualFunc_1.c dn a b = rB (decide (a = b)) := by
  rw [slices_EqualFunc_1.eq fix]
  have hm := ha.1
  by_cases hl : a.length = b.length
  · rw [decide_eq_true (by omega : (a.length : Int) = (b.length : Int)), Bool.not_true, cond_false]
    refine (eq_loop (l0 := fun i => slices_EqualFunc_1.l0 dn iterJ b a (a.length : Int) i) (R := rB true) (F := rB false) hl ?_ fun i hi => ?_).trans (by exact bif_dec _ _)
    · rw [slices_EqualFunc_1.l0_eq fix, not_lt_nat (Nat.le_refl _)]; rfl
    · have hj : i < b.length := hl ▸ hi
      obtain ⟨c0, hrc, hc0⟩ := row109 (ha.2 _ (getD_mem hi (z := [])))
      obtain ⟨d0, hrd, hd0⟩ := row109 (hb.2 _ (getD_mem hj (z := [])))
      rw [slices_EqualFunc_1.l0_eq fix, lt_nat hi, inRange_nat, inRange_nat, decide_eq_true hi, decide_eq_true hj, Int.toNat_natCast, wrap_nat (n := i) (by omega), hrc, hrd]
      simp (disch := assumption) only [Option.bind_some, Ret.u_mk, Ret.m_mk, List.getD_cons_zero, List.getD_cons_succ, U.toInt_int, U.toBool_bool, U.toStr_str, U.toLst_lst, cond_true, cond_false, Bool.and_true, eq_spec_EqualInts, eq_spec_l28Issuers, eq_spec_EqualStores, eq_spec_l27Revoked, eq_spec_l24Pairs, eq_spec_l27Saved, eq_spec_EqualGrants, eq_spec_EqualEmergencies, eq_slices_Equal, eq_impl_equalIssuers, eq_slices_EqualFunc_2, eq_slices_Equal_11, eq_slices_Equal_9, eq_impl_EqualStores, eq_slices_Equal_6, eq_slices_Equal_7, eq_slices_Equal_10, eq_slices_Equal_1, eq_slices_Equal_8]
      by_cases e0 : c0 = d0
      rotate_left
      · simp [e0]
      simp [e0]
  · rw [decide_eq_false (by omega : ¬ (a.length : Int) = (b.length : Int)), decide_eq_false (fun h => hl (congrArg List.length h))]; rfl
theorem eq_slices_Equal_2 (a b : List (List U)) (ha : WR tabs.ct 143 a) (hb : WR tabs.ct 143 b) : slices_Equal_2.c dn a b = rB (decide (a = b)) := by
  rw [slices_Equal_2.eq fix]
  have hm := ha.1
  by_cases hl : a.length = b.length
  · rw [decide_eq_true (by omega : (a.length : Int) = (b.length : Int)), Bool.not_true, cond_false]
    refine (eq_loop (l0 := fun i => slices_Equal_2.l0 dn iterJ a b (a.length : Int) i) (R := rB true) (F := rB false) hl ?_ fun i hi => ?_).trans (by exact bif_dec _ _)
    · rw [slices_Equal_2.l0_eq fix, not_lt_nat (Nat.le_refl _)]; rfl
    · have hj : i < b.length := hl ▸ hi
      obtain ⟨c0, c1, hrc⟩ := row143 (ha.2 _ (getD_mem hi (z := [])))
      obtain ⟨d0, d1, hrd⟩ := row143 (hb.2 _ (getD_mem hj (z := [])))
      rw [slices_Equal_2.l0_eq fix, lt_nat hi, inRange_nat, inRange_nat, decide_eq_true hi, decide_eq_true hj, Int.toNat_natCast, wrap_nat (n := i) (by omega), hrc, hrd]
      simp (disch := assumption) only [Option.bind_some, Ret.u_mk, Ret.m_mk, List.getD_cons_zero, List.getD_cons_succ, U.toInt_int, U.toBool_bool, U.toStr_str, U.toLst_lst, cond_true, cond_false, Bool.and_true, eq_spec_EqualInts, eq_spec_l28Issuers, eq_spec_EqualStores, eq_spec_l27Revoked, eq_spec_l24Pairs, eq_spec_l27Saved, eq_spec_EqualGrants, eq_spec_EqualEmergencies, eq_slices_Equal, eq_impl_equalIssuers, eq_slices_EqualFunc_2, eq_slices_Equal_11, eq_slices_Equal_9, eq_impl_EqualStores, eq_slices_Equal_6, eq_slices_Equal_7, eq_slices_Equal_10, eq_slices_Equal_1, eq_slices_Equal_8, eq_slices_EqualFunc_1]
      by_cases e0 : c0 = d0
      rotate_left
      · simp [e0]
      by_cases e1 : c1 = d1
      rotate_left
      · simp [e1]
      simp [e0, e1]
  · rw [decide_eq_false (by omega : ¬ (a.length : Int) = (b.length : Int)), decide_eq_false (fun h => hl (congrArg List.length h))]; rfl
theorem eq_impl_equalGrant (c0 d0 : Int) (c1 d1 : Int) (c2 d2 : Int) (c3 d3 : List (List U)) (c4 d4 : Int) (c5 d5 : Int) (c6 d6 : Bool) (hc3 : WR tabs.ct 3 c3) (hd3 : WR tabs.ct 3 d3) : impl_equalGrant.c dn c0 c1 c2 c3 c4 c5 c6 d0 d1 d2 d3 d4 d5 d6 = rB (decide (c0 = d0 ∧ c1 = d1 ∧ c2 = d2 ∧ c3 = d3 ∧ c4 = d4 ∧ c5 = d5 ∧ c6 = d6)) := by
  rw [impl_equalGrant.eq fix]
  simp (disch := assumption) only [Option.bind_some, Ret.u_mk, Ret.m_mk, List.getD_cons_zero, List.getD_cons_succ, U.toInt_int, U.toBool_bool, U.toStr_str, U.toLst_lst, cond_true, cond_false, Bool.and_true, eq_spec_EqualInts, eq_spec_l28Issuers, eq_spec_EqualStores, eq_spec_l27Revoked, eq_spec_l24Pairs, eq_spec_l27Saved, eq_spec_EqualGrants, eq_spec_EqualEmergencies, eq_slices_Equal, eq_impl_equalIssuers, eq_slices_EqualFunc_2, eq_slices_Equal_11, eq_slices_Equal_9, eq_impl_EqualStores, eq_slices_Equal_6, eq_slices_Equal_7, eq_slices_Equal_10, eq_slices_Equal_1, eq_slices_Equal_8, eq_slices_EqualFunc_1, eq_slices_Equal_2]
  by_cases e0 : c0 = d0
  rotate_left
  · simp [e0]
  by_cases e1 : c1 = d1
  rotate_left
  · simp [e1]
  by_cases e2 : c2 = d2
  rotate_left
  · simp [e2]
  by_cases e3 : c3 = d3
  rotate_left
  · simp [e3]
  by_cases e4 : c4 = d4
  rotate_left
  · simp [e4]
  by_cases e5 : c5 = d5
  rotate_left
  · simp [e5]
  by_cases e6 : c6 = d6
  rotate_left
  · have f6 : (c6 == d6) = false := by simpa using e6
    simp [e6, f6]
  simp [e0, e1, e2, e3, e4, e5, e6]
theorem eq_slices_EqualFunc_4 (a b : List (List U)) (ha : WR tabs.ct 183 a) (hb : WR tabs.ct 183 b) : slices_EqualFunc_4.c dn a b = rB (decide (a = b)) := by
  rw [slices_EqualFunc_4.eq fix]
  have hm := ha.1
  by_cases hl : a.length = b.length
  · rw [decide_eq_true (by omega : (a.length : Int) = (b.length : Int)), Bool.not_true, cond_false]
    refine (eq_loop (l0 := fun i => slices_EqualFunc_4.l0 dn iterJ b a (a.length : Int) i) (R := rB true) (F := rB false) hl ?_ fun i hi => ?_).trans (by exact bif_dec _ _)
    · rw [slices_EqualFunc_4.l0_eq fix, not_lt_nat (Nat.le_refl _)]; rfl
    · have hj : i < b.length := hl ▸ hi
      obtain ⟨c0, c1, c2, c3, c4, c5, c6, hrc, hc3⟩ := row183 (ha.2 _ (getD_mem hi (z := [])))
      obtain ⟨d0, d1, d2, d3, d4, d5, d6, hrd, hd3⟩ := row183 (hb.2 _ (getD_mem hj (z := [])))
      rw [slices_EqualFunc_4.l0_eq fix, lt_nat hi, inRange_nat, inRange_nat, decide_eq_true hi, decide_eq_true hj, Int.toNat_natCast, wrap_nat (n := i) (by omega), hrc, hrd]
      simp (disch := assumption) only [Option.bind_some, Ret.u_mk, Ret.m_mk, List.getD_cons_zero, List.getD_cons_succ, U.toInt_int, U.toBool_bool, U.toStr_str, U.toLst_lst, cond_true, cond_false, Bool.and_true, eq_spec_EqualInts, eq_spec_l28Issuers, eq_spec_EqualStores, eq_spec_l27Revoked, eq_spec_l24Pairs, eq_spec_l27Saved, eq_spec_EqualGrants, eq_spec_EqualEmergencies, eq_slices_Equal, eq_impl_equalIssuers, eq_slices_EqualFunc_2, eq_slices_Equal_11, eq_slices_Equal_9, eq_impl_EqualStores, eq_slices_Equal_6, eq_slices_Equal_7, eq_slices_Equal_10, eq_slices_Equal_1, eq_slices_Equal_8, eq_slices_EqualFunc_1, eq_slices_Equal_2, eq_impl_equalGrant]
      by_cases e0 : c0 = d0
      rotate_left
      · simp [e0]
      by_cases e1 : c1 = d1
      rotate_left
      · simp [e1]
      by_cases e2 : c2 = d2
      rotate_left
      · simp [e2]
      by_cases e3 : c3 = d3
      rotate_left
      · simp [e3]
      by_cases e4 : c4 = d4
      rotate_left
      · simp [e4]
      by_cases e5 : c5 = d5
      rotate_left
      · simp [e5]
      by_cases e6 : c6 = d6
      rotate_left
      · have f6 : (c6 == d6) = false := by simpa using e6
        simp [e6, f6]
      simp [e0, e1, e2, e3, e4, e5, e6]
  · rw [decide_eq_false (by omega : ¬ (a.length : Int) = (b.length : Int)), decide_eq_false (fun h => hl (congrArg List.length h))]; rfl
theorem eq_impl_EqualGrants (a b : List (List U)) (ha : WR tabs.ct 183 a) (hb : WR tabs.ct 183 b) : impl_EqualGrants.c dn a b = rB (decide (a = b)) := by
  rw [impl_EqualGrants.eq fix]
  simp (disch := assumption) only [Option.bind_some, Ret.u_mk, Ret.m_mk, List.getD_cons_zero, List.getD_cons_succ, U.toInt_int, U.toBool_bool, U.toStr_str, U.toLst_lst, cond_true, cond_false, Bool.and_true, eq_spec_EqualInts, eq_spec_l28Issuers, eq_spec_EqualStores, eq_spec_l27Revoked, eq_spec_l24Pairs, eq_spec_l27Saved, eq_spec_EqualGrants, eq_spec_EqualEmergencies, eq_slices_Equal, eq_impl_equalIssuers, eq_slices_EqualFunc_2, eq_slices_Equal_11, eq_slices_Equal_9, eq_impl_EqualStores, eq_slices_Equal_6, eq_slices_Equal_7, eq_slices_Equal_10, eq_slices_Equal_1, eq_slices_Equal_8, eq_slices_EqualFunc_1, eq_slices_Equal_2, eq_impl_equalGrant, eq_slices_EqualFunc_4]
theorem eq_slices_Equal_3 (a b : List (List U)) (ha : WR tabs.ct 145 a) (hb : WR tabs.ct 145 b) : slices_Equal_3.c dn a b = rB (decide (a = b)) := by
  rw [slices_Equal_3.eq fix]
  have hm := ha.1
  by_cases hl : a.length = b.length
  · rw [decide_eq_true (by omega : (a.length : Int) = (b.length : Int)), Bool.not_true, cond_false]
    refine (eq_loop (l0 := fun i => slices_Equal_3.l0 dn iterJ a b (a.length : Int) i) (R := rB true) (F := rB false) hl ?_ fun i hi => ?_).trans (by exact bif_dec _ _)
    · rw [slices_Equal_3.l0_eq fix, not_lt_nat (Nat.le_refl _)]; rfl
    · have hj : i < b.length := hl ▸ hi
      obtain ⟨c0, c1, c2, hrc⟩ := row145 (ha.2 _ (getD_mem hi (z := [])))
      obtain ⟨d0, d1, d2, hrd⟩ := row145 (hb.2 _ (getD_mem hj (z := [])))
      rw [slices_Equal_3.l0_eq fix, lt_nat hi, inRange_nat, inRange_nat, decide_eq_true hi, decide_eq_true hj, Int.toNat_natCast, wrap_nat (n := i) (by omega), hrc, hrd]
      simp (disch := assumption) only [Option.bind_some, Ret.u_mk, Ret.m_mk, List.getD_cons_zero, List.getD_cons_succ, U.toInt_int, U.toBool_bool, U.toStr_str, U.toLst_lst, cond_true, cond_false, Bool.and_true, eq_spec_EqualInts, eq_spec_l28Issuers, eq_spec_EqualStores, eq_spec_l27Revoked, eq_spec_l24Pairs, eq_spec_l27Saved, eq_spec_EqualGrants, eq_spec_EqualEmergencies, eq_slices_Equal, eq_impl_equalIssuers, eq_slices_EqualFunc_2, eq_slices_Equal_11, eq_slices_Equal_9, eq_impl_EqualStores, eq_slices_Equal_6, eq_slices_Equal_7, eq_slices_Equal_10, eq_slices_Equal_1, eq_slices_Equal_8, eq_slices_EqualFunc_1, eq_slices_Equal_2, eq_impl_equalGrant, eq_slices_EqualFunc_4, eq_impl_EqualGrants]
      by_cases e0 : c0 = d0
      rotate_left
      · simp [e0]
      by_cases e1 : c1 = d1
      rotate_left
      · simp [e1]
      by_cases e2 : c2 = d2
      rotate_left
      · simp [e2]
      simp [e0, e1, e2]
  · rw [decide_eq_false (by omega : ¬ (a.length : Int) = (b.length : Int)), decide_eq_false (fun h => hl (congrArg List.length h))]; rfl
theorem eq_slices_Equal_4 (a b : List (List U)) (ha : WR tabs.ct 124 a) (hb : WR tabs.ct 124 b) : slices_Equal_4.c dn a b = rB (decide (a = b)) := by
  rw [slices_Equal_4.eq fix]
  have hm := ha.1
  by_cases hl : a.length = b.length
  · rw [decide_eq_true (by omega : (a.length : Int) = (b.length : Int)), Bool.not_true, cond_false]
    refine (eq_loop (l0 := fun i => slices_Equal_4.l0 dn iterJ a b (a.length : Int) i) (R := rB true) (F := rB false) hl ?_ fun i hi => ?_).trans (by exact bif_dec _ _)
    · rw [slices_Equal_4.l0_eq fix, not_lt_nat (Nat.le_refl _)]; rfl
    · have hj : i < b.length := hl ▸ hi
      obtain ⟨c0, c1, c2, c3, hrc⟩ := row124 (ha.2 _ (getD_mem hi (z := [])))
      obtain ⟨d0, d1, d2, d3, hrd⟩ := row124 (hb.2 _ (getD_mem hj (z := [])))
      rw [slices_Equal_4.l0_eq fix, lt_nat hi, inRange_nat, inRange_nat, decide_eq_true hi, decide_eq_true hj, Int.toNat_natCast, wrap_nat (n := i) (by omega), hrc, hrd]
      simp (disch := assumption) only [Option.bind_some, Ret.u_mk, Ret.m_mk, List.getD_cons_zero, List.getD_cons_succ, U.toInt_int, U.toBool_bool, U.toStr_str, U.toLst_lst, cond_true, cond_false, Bool.and_true, eq_spec_EqualInts, eq_spec_l28Issuers, eq_spec_EqualStores, eq_spec_l27Revoked, eq_spec_l24Pairs, eq_spec_l27Saved, eq_spec_EqualGrants, eq_spec_EqualEmergencies, eq_slices_Equal, eq_impl_equalIssuers, eq_slices_EqualFunc_2, eq_slices_Equal_11, eq_slices_Equal_9, eq_impl_EqualStores, eq_slices_Equal_6, eq_slices_Equal_7, eq_slices_Equal_10, eq_slices_Equal_1, eq_slices_Equal_8, eq_slices_EqualFunc_1, eq_slices_Equal_2, eq_impl_equalGrant, eq_slices_EqualFunc_4, eq_impl_EqualGrants, eq_slices_Equal_3]
      by_cases e0 : c0 = d0
      rotate_left
      · simp [e0]
      by_cases e1 : c1 = d1
      rotate_left
      · simp [e1]
      by_cases e2 : c2 = d2
      rotate_left
      · simp [e2]
      by_cases e3 : c3 = d3
      rotate_left
      · simp [e3]
      simp [e0, e1, e2, e3]
  · rw [decide_eq_false (by omega : ¬ (a.length : Int) = (b.length : Int)), decide_eq_false (fun h => hl (congrArg List.length h))]; rfl
theorem eq_impl_equalEmergency (c0 d0 : Int) (c1 d1 : Int) (c2 d2 : Int) (c3 d3 : Int) (c4 d4 : List (List U)) (c5 d5 : Bool) (hc4 : WR tabs.ct 3 c4) (hd4 : WR tabs.ct 3 d4) : impl_equalEmergency.c dn c0 c1 c2 c3 c4 c5 d0 d1 d2 d3 d4 d5 = rB (decide (c0 = d0 ∧ c1 = d1 ∧ c2 = d2 ∧ c3 = d3 ∧ c4 = d4 ∧ c5 = d5)) := by
  rw [impl_equalEmergency.eq fix]
  simp (disch := assumption) only [Option.bind_some, Ret.u_mk, Ret.m_mk, List.getD_cons_zero, List.getD_cons_succ, U.toInt_int, U.toBool_bool, U.toStr_str, U.toLst_lst, cond_true, cond_false, Bool.and_true, eq_spec_EqualInts, eq_spec_l28Issuers, eq_spec_EqualStores, eq_spec_l27Revoked, eq_spec_l24Pairs, eq_spec_l27Saved, eq_spec_EqualGrants, eq_spec_EqualEmergencies, eq_slices_Equal, eq_impl_equalIssuers, eq_slices_EqualFunc_2, eq_slices_Equal_11, eq_slices_Equal_9, eq_impl_EqualStores, eq_slices_Equal_6, eq_slices_Equal_7, eq_slices_Equal_10, eq_slices_Equal_1, eq_slices_Equal_8, eq_slices_EqualFunc_1, eq_slices_Equal_2, eq_impl_equalGrant, eq_slices_EqualFunc_4, eq_impl_EqualGrants, eq_slices_Equal_3, eq_slices_Equal_4]
  by_cases e0 : c0 = d0
  rotate_left
  · simp [e0]
  by_cases e1 : c1 = d1
  rotate_left
  · simp [e1]
  by_cases e2 : c2 = d2
  rotate_left
  · simp [e2]
  by_cases e3 : c3 = d3
  rotate_left
  · simp [e3]
  by_cases e4 : c4 = d4
  rotate_left
  · simp [e4]
  by_cases e5 : c5 = d5
  rotate_left
  · have f5 : (c5 == d5) = false := by simpa using e5
    simp [e5, f5]
  simp [e0, e1, e2, e3, e4, e5]
theorem eq_slices_EqualFunc_5 (a b : List (List U)) (ha : WR tabs.ct 119 a) (hb : WR tabs.ct 119 b) : slices_EqualFunc_5.c dn a b = rB (decide (a = b)) := by
  rw [slices_EqualFunc_5.eq fix]
  have hm := ha.1
  by_cases hl : a.length = b.length
  · rw [decide_eq_true (by omega : (a.length : Int) = (b.length : Int)), Bool.not_true, cond_false]
    refine (eq_loop (l0 := fun i => slices_EqualFunc_5.l0 dn iterJ b a (a.length : Int) i) (R := rB true) (F := rB false) hl ?_ fun i hi => ?_).trans (by exact bif_dec _ _)
    · rw [slices_EqualFunc_5.l0_eq fix, not_lt_nat (Nat.le_refl _)]; rfl
    · have hj : i < b.length := hl ▸ hi
      obtain ⟨c0, c1, c2, c3, c4, c5, hrc, hc4⟩ := row119 (ha.2 _ (getD_mem hi (z := [])))
      obtain ⟨d0, d1, d2, d3, d4, d5, hrd, hd4⟩ := row119 (hb.2 _ (getD_mem hj (z := [])))
      rw [slices_EqualFunc_5.l0_eq fix, lt_nat hi, inRange_nat, inRange_nat, decide_eq_true hi, decide_eq_true hj, Int.toNat_natCast, wrap_nat (n := i) (by omega), hrc, hrd]
      simp (disch := assumption) only [Option.bind_some, Ret.u_mk, Ret.m_mk, List.getD_cons_zero, List.getD_cons_succ, U.toInt_int, U.toBool_bool, U.toStr_str, U.toLst_lst, cond_true, cond_false, Bool.and_true, eq_spec_EqualInts, eq_spec_l28Issuers, eq_spec_EqualStores, eq_spec_l27Revoked, eq_spec_l24Pairs, eq_spec_l27Saved, eq_spec_EqualGrants, eq_spec_EqualEmergencies, eq_slices_Equal, eq_impl_equalIssuers, eq_slices_EqualFunc_2, eq_slices_Equal_11, eq_slices_Equal_9, eq_impl_EqualStores, eq_slices_Equal_6, eq_slices_Equal_7, eq_slices_Equal_10, eq_slices_Equal_1, eq_slices_Equal_8, eq_slices_EqualFunc_1, eq_slices_Equal_2, eq_impl_equalGrant, eq_slices_EqualFunc_4, eq_impl_EqualGrants, eq_slices_Equal_3, eq_slices_Equal_4, eq_impl_equalEmergency]
      by_cases e0 : c0 = d0
      rotate_left
      · simp [e0]
      by_cases e1 : c1 = d1
      rotate_left
      · simp [e1]
      by_cases e2 : c2 = d2
      rotate_left
      · simp [e2]
      by_cases e3 : c3 = d3
      rotate_left
      · simp [e3]
      by_cases e4 : c4 = d4
      rotate_left
      · simp [e4]
      by_cases e5 : c5 = d5
      rotate_left
      · have f5 : (c5 == d5) = false := by simpa using e5
        simp [e5, f5]
      simp [e0, e1, e2, e3, e4, e5]
  · rw [decide_eq_false (by omega : ¬ (a.length : Int) = (b.length : Int)), decide_eq_false (fun h => hl (congrArg List.length h))]; rfl
theorem eq_impl_EqualEmergencies (a b : List (List U)) (ha : WR tabs.ct 119 a) (hb : WR tabs.ct 119 b) : impl_EqualEmergencies.c dn a b = rB (decide (a = b)) := by
  rw [impl_EqualEmergencies.eq fix]
  simp (disch := assumption) only [Option.bind_some, Ret.u_mk, Ret.m_mk, List.getD_cons_zero, List.getD_cons_succ, U.toInt_int, U.toBool_bool, U.toStr_str, U.toLst_lst, cond_true, cond_false, Bool.and_true, eq_spec_EqualInts, eq_spec_l28Issuers, eq_spec_EqualStores, eq_spec_l27Revoked, eq_spec_l24Pairs, eq_spec_l27Saved, eq_spec_EqualGrants, eq_spec_EqualEmergencies, eq_slices_Equal, eq_impl_equalIssuers, eq_slices_EqualFunc_2, eq_slices_Equal_11, eq_slices_Equal_9, eq_impl_EqualStores, eq_slices_Equal_6, eq_slices_Equal_7, eq_slices_Equal_10, eq_slices_Equal_1, eq_slices_Equal_8, eq_slices_EqualFunc_1, eq_slices_Equal_2, eq_impl_equalGrant, eq_slices_EqualFunc_4, eq_impl_EqualGrants, eq_slices_Equal_3, eq_slices_Equal_4, eq_impl_equalEmergency, eq_slices_EqualFunc_5]
theorem eq_slices_Equal_5 (a b : List (List U)) (ha : WR tabs.ct 149 a) (hb : WR tabs.ct 149 b) : slices_Equal_5.c dn a b = rB (decide (a = b)) := by
  rw [slices_Equal_5.eq fix]
  have hm := ha.1
  by_cases hl : a.length = b.length
  · rw [decide_eq_true (by omega : (a.length : Int) = (b.length : Int)), Bool.not_true, cond_false]
    refine (eq_loop (l0 := fun i => slices_Equal_5.l0 dn iterJ a b (a.length : Int) i) (R := rB true) (F := rB false) hl ?_ fun i hi => ?_).trans (by exact bif_dec _ _)
    · rw [slices_Equal_5.l0_eq fix, not_lt_nat (Nat.le_refl _)]; rfl
    · have hj : i < b.length := hl ▸ hi
      obtain ⟨c0, c1, c2, c3, c4, c5, c6, c7, c8, c9, hrc⟩ := row149 (ha.2 _ (getD_mem hi (z := [])))
      obtain ⟨d0, d1, d2, d3, d4, d5, d6, d7, d8, d9, hrd⟩ := row149 (hb.2 _ (getD_mem hj (z := [])))
      rw [slices_Equal_5.l0_eq fix, lt_nat hi, inRange_nat, inRange_nat, decide_eq_true hi, decide_eq_true hj, Int.toNat_natCast, wrap_nat (n := i) (by omega), hrc, hrd]
      simp (disch := assumption) only [Option.bind_some, Ret.u_mk, Ret.m_mk, List.getD_cons_zero, List.getD_cons_succ, U.toInt_int, U.toBool_bool, U.toStr_str, U.toLst_lst, cond_true, cond_false, Bool.and_true, eq_spec_EqualInts, eq_spec_l28Issuers, eq_spec_EqualStores, eq_spec_l27Revoked, eq_spec_l24Pairs, eq_spec_l27Saved, eq_spec_EqualGrants, eq_spec_EqualEmergencies, eq_slices_Equal, eq_impl_equalIssuers, eq_slices_EqualFunc_2, eq_slices_Equal_11, eq_slices_Equal_9, eq_impl_EqualStores, eq_slices_Equal_6, eq_slices_Equal_7, eq_slices_Equal_10, eq_slices_Equal_1, eq_slices_Equal_8, eq_slices_EqualFunc_1, eq_slices_Equal_2, eq_impl_equalGrant, eq_slices_EqualFunc_4, eq_impl_EqualGrants, eq_slices_Equal_3, eq_slices_Equal_4, eq_impl_equalEmergency, eq_slices_EqualFunc_5, eq_impl_EqualEmergencies]
      by_cases e0 : c0 = d0
      rotate_left
      · simp [e0]
      by_cases e1 : c1 = d1
      rotate_left
      · simp [e1]
      by_cases e2 : c2 = d2
      rotate_left
      · simp [e2]
      by_cases e3 : c3 = d3
      rotate_left
      · simp [e3]
      by_cases e4 : c4 = d4
      rotate_left
      · simp [e4]
      by_cases e5 : c5 = d5
      rotate_left
      · simp [e5]
      by_cases e6 : c6 = d6
      rotate_left
      · simp [e6]
      by_cases e7 : c7 = d7
      rotate_left
      · simp [e7]
      by_cases e8 : c8 = d8
      rotate_left
      · simp [e8]
      by_cases e9 : c9 = d9
      rotate_left
      · have f9 : (c9 == d9) = false := by simpa using e9
        simp [e9, f9]
      simp [e0, e1, e2, e3, e4, e5, e6, e7, e8, e9]
  · rw [decide_eq_false (by omega : ¬ (a.length : Int) = (b.length : Int)), decide_eq_false (fun h => hl (congrArg List.length h))]; rfl
end
end Go.Proofs.YtpkhifegfpehpaaGreat.Eng
