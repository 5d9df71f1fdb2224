/- Worlds, compared. -/
import Derived.Test.YtpkhifegfpehpaaGreatPQ5
namespace Go.Proofs.YtpkhifegfpehpaaGreat.Eng
open Go.RowKit
section
open Classical
set_option linter.unusedVariables false
set_option linter.unusedSimpArgs false
set_option maxRecDepth 100000
theorem eq_spec_EqualCenters (c0 c1 c2 c3 : List (List U)) (c4 : Int) (c5 d0 d1 d2 d3 : List (List U)) (d4 : Int) (d5 : List (List U)) (hc0 : WR tabs.ct 220 c0) (hd0 : WR tabs.ct 220 d0) (hc1 : WR tabs.ct 135 c1) (hd1 : WR tabs.ct 135 d1) (hc2 : WR tabs.ct 235 c2) (hd2 : WR tabs.ct 235 d2) (hc3 : WR tabs.ct 209 c3) (hd3 : WR tabs.ct 209 d3) (hc5 : WR tabs.ct 69 c5) (hd5 : WR tabs.ct 69 d5) :
    spec_EqualCenters.c dn c0 c1 c2 c3 c4 c5 d0 d1 d2 d3 d4 d5 = rB (decide (c0 = d0 ∧ c1 = d1 ∧ c2 = d2 ∧ c3 = d3 ∧ c4 = d4 ∧ c5 = d5)) := by
  rw [spec_EqualCenters.eq fix]
  by_cases h1 : c1.length = d1.length
  rotate_left
  · rw [decide_eq_false (by omega : ¬ (c1.length : Int) = (d1.length : Int))]; exact (congrArg rB (decide_eq_false (fun h => h1 (congrArg List.length h.2.1)))).symm
  by_cases h5 : c5.length = d5.length
  rotate_left
  · rw [decide_eq_true (by omega : (c1.length : Int) = (d1.length : Int)), decide_eq_false (by omega : ¬ (c5.length : Int) = (d5.length : Int))]; exact (congrArg rB (decide_eq_false (fun h => h5 (congrArg List.length h.2.2.2.2.2)))).symm
  rw [decide_eq_true (by omega : (c1.length : Int) = (d1.length : Int)), decide_eq_true (by omega : (c5.length : Int) = (d5.length : Int))]
  refine (eq_spec_EqualCenters_l0 c0 c1 c2 c3 c4 c5 d0 d1 d2 d3 d4 d5 h1 hc1 hd1 (R := bif decide (c5 = d5) then rB (decide (c4 = d4 ∧ c0 = d0 ∧ c2 = d2 ∧ c3 = d3)) else rB false) ?_).trans ?_
  · rw [spec_EqualCenters.l0_eq fix, not_lt_nat (Nat.le_refl _)]
    refine eq_spec_EqualCenters_l1 c0 c1 c2 c3 c4 c5 d0 d1 d2 d3 d4 d5 h5 hc5 hd5 ?_
    rw [spec_EqualCenters.l1_eq fix, not_lt_nat (Nat.le_refl _), eq_spec_l28Issuers _ _ hc0 hd0, eq_spec_EqualStores _ _ hc2 hd2, eq_spec_l27Revoked _ _ hc3 hd3]
    by_cases e4 : c4 = d4
    rotate_left
    · simp [e4]
    by_cases e0 : c0 = d0
    rotate_left
    · simp [e0]
    by_cases e2 : c2 = d2
    rotate_left
    · simp [e2]
    by_cases e3 : c3 = d3
    rotate_left
    · simp [e3]
    simp [e4, e0, e2, e3]
  · by_cases e1 : c1 = d1
    rotate_left
    · simp [e1]
    by_cases e5 : c5 = d5
    rotate_left
    · simp [e5]
    by_cases e4 : c4 = d4
    rotate_left
    · simp [e4]
    by_cases e0 : c0 = d0
    rotate_left
    · simp [e0]
    by_cases e2 : c2 = d2
    rotate_left
    · simp [e2]
    by_cases e3 : c3 = d3
    rotate_left
    · simp [e3]
    simp [e1, e5, e4, e0, e2, e3]
theorem eq_spec_IsExtension (a b : List (List U)) (hl : a.length = b.length) (ha : WR tabs.ct 112 a) (hb : WR tabs.ct 112 b) : spec_IsExtension.c dn a b = rB (decide (a = b)) := by
  have hm := ha.1
  rw [spec_IsExtension.eq fix, decide_eq_false (by omega : ¬ (a.length : Int) > (b.length : Int))]
  refine (eq_loop (l0 := fun i => spec_IsExtension.l0 dn iterJ a b i) (R := rB true) (F := rB false) hl ?_ fun i hi => ?_).trans (by exact bif_dec _ _)
  · rw [spec_IsExtension.l0_eq fix, not_lt_nat (Nat.le_refl _)]; rfl
  · have hj : i < b.length := hl ▸ hi
    obtain ⟨c0, c1, c2, c3, c4, c5, c6, c7, c8, hrc⟩ := row112 (ha.2 _ (getD_mem hi (z := [])))
    obtain ⟨d0, d1, d2, d3, d4, d5, d6, d7, d8, hrd⟩ := row112 (hb.2 _ (getD_mem hj (z := [])))
    rw [spec_IsExtension.l0_eq fix, lt_nat hi, inRange_nat, inRange_nat, decide_eq_true hi, decide_eq_true hj, Int.toNat_natCast, wrap_nat (n := i) (by omega), hrc, hrd]
    simp only [List.getD_cons_zero, List.getD_cons_succ, U.toInt_int, cond_true]
    by_cases h : c0 = d0 ∧ c1 = d1 ∧ c2 = d2 ∧ c3 = d3 ∧ c4 = d4 ∧ c5 = d5 ∧ c6 = d6 ∧ c7 = d7 ∧ c8 = d8
    · obtain ⟨rfl, rfl, rfl, rfl, rfl, rfl, rfl, rfl, rfl⟩ := h
      simp
    · have e1 : (decide (c0 = d0) && (decide (c1 = d1) && (decide (c2 = d2) && (decide (c3 = d3) && (decide (c4 = d4) && (decide (c5 = d5) && (decide (c6 = d6) && (decide (c7 = d7) && (decide (c8 = d8) && true))))))))) = false := by
        rw [Bool.eq_false_iff]
        intro q
        simp only [Bool.and_eq_true, decide_eq_true_eq, and_true] at q
        exact h q
      rw [e1, decide_eq_false (fun q => h (by simpa using q))]; rfl
theorem eq_spec_l36Trails (a b : List (List U)) (ha : WR tabs.ct 109 a) (hb : WR tabs.ct 109 b) : spec_l36Trails.c dn a b = rB (decide (a = b)) := by
  rw [spec_l36Trails.eq fix]
  have hm := ha.1
  by_cases hl : a.length = b.length
  · rw [decide_eq_true (by omega : (a.length : Int) = (b.length : Int)), Bool.not_true, cond_false]
    refine (eq_loop (l0 := fun i => spec_l36Trails.l0 dn iterJ a b i) (R := rB true) (F := rB false) hl ?_ fun i hi => ?_).trans (by exact bif_dec _ _)
    · rw [spec_l36Trails.l0_eq fix, not_lt_nat (Nat.le_refl _)]; rfl
    · have hj : i < b.length := hl ▸ hi
      obtain ⟨c0, hrc, hc0⟩ := row109 (ha.2 _ (getD_mem hi (z := [])))
      obtain ⟨d0, hrd, hd0⟩ := row109 (hb.2 _ (getD_mem hj (z := [])))
      rw [spec_l36Trails.l0_eq fix, lt_nat hi, inRange_nat, inRange_nat, decide_eq_true hi, decide_eq_true hj, Int.toNat_natCast, wrap_nat (n := i) (by omega), hrc, hrd]
      simp only [List.getD_cons_zero, U.toLst_lst, cond_true]
      by_cases h : c0.length = d0.length
      · rw [decide_eq_true (by omega : (c0.length : Int) = (d0.length : Int)), eq_spec_IsExtension _ _ h hc0 hd0]
        by_cases e0 : c0 = d0
        rotate_left
        · simp [e0]
        simp [e0]
      · rw [decide_eq_false (by omega : ¬ (c0.length : Int) = (d0.length : Int)), decide_eq_false (fun q => h (by simp at q; rw [q]))]; rfl
  · rw [decide_eq_false (by omega : ¬ (a.length : Int) = (b.length : Int)), decide_eq_false (fun h => hl (congrArg List.length h))]; rfl
theorem eq_spec_l36Small (a0 : Int) (a1 a2 a3 a4 : List (List U)) (a5 : Int) (a6 a7 a8 a9 : List (List U)) (a10 : Int) (a11 a12 a13 a14 a15 a16 : List (List U)) (a17 : Int) (a18 a19 : List (List U)) (b0 : Int) (b1 b2 b3 b4 : List (List U)) (b5 : Int) (b6 b7 b8 b9 : List (List U)) (b10 : Int) (b11 b12 b13 b14 b15 b16 : List (List U)) (b17 : Int) (b18 b19 : List (List U)) (hc8 : WR tabs.ct 4 a8) (hd8 : WR tabs.ct 4 b8) (hc11 : WR tabs.ct 143 a11) (hd11 : WR tabs.ct 143 b11) (hc13 : WR tabs.ct 145 a13) (hd13 : WR tabs.ct 145 b13) (hc14 : WR tabs.ct 124 a14) (hd14 : WR tabs.ct 124 b14) (hc19 : WR tabs.ct 149 a19) (hd19 : WR tabs.ct 149 b19) :
    spec_l36Small.c dn a0 a1 a2 a3 a4 a5 a6 a7 a8 a9 a10 a11 a12 a13 a14 a15 a16 a17 a18 a19 b0 b1 b2 b3 b4 b5 b6 b7 b8 b9 b10 b11 b12 b13 b14 b15 b16 b17 b18 b19 = rB (decide (a8 = b8 ∧ a11 = b11 ∧ a13 = b13 ∧ a14 = b14 ∧ a19 = b19)) := by
  rw [spec_l36Small.eq fix]
  by_cases h8 : a8.length = b8.length
  rotate_left
  · rw [decide_eq_false (by omega : ¬ (a8.length : Int) = (b8.length : Int))]; exact (congrArg rB (decide_eq_false (fun h => h8 (congrArg List.length h.1)))).symm
  rw [decide_eq_true (by omega : (a8.length : Int) = (b8.length : Int))]
  by_cases h11 : a11.length = b11.length
  rotate_left
  · rw [decide_eq_false (by omega : ¬ (a11.length : Int) = (b11.length : Int))]; exact (congrArg rB (decide_eq_false (fun h => h11 (congrArg List.length h.2.1)))).symm
  rw [decide_eq_true (by omega : (a11.length : Int) = (b11.length : Int))]
  by_cases h13 : a13.length = b13.length
  rotate_left
  · rw [decide_eq_false (by omega : ¬ (a13.length : Int) = (b13.length : Int))]; exact (congrArg rB (decide_eq_false (fun h => h13 (congrArg List.length h.2.2.1)))).symm
  rw [decide_eq_true (by omega : (a13.length : Int) = (b13.length : Int))]
  by_cases h14 : a14.length = b14.length
  rotate_left
  · rw [decide_eq_false (by omega : ¬ (a14.length : Int) = (b14.length : Int))]; exact (congrArg rB (decide_eq_false (fun h => h14 (congrArg List.length h.2.2.2.1)))).symm
  rw [decide_eq_true (by omega : (a14.length : Int) = (b14.length : Int))]
  by_cases h19 : a19.length = b19.length
  rotate_left
  · rw [decide_eq_false (by omega : ¬ (a19.length : Int) = (b19.length : Int))]; exact (congrArg rB (decide_eq_false (fun h => h19 (congrArg List.length h.2.2.2.2)))).symm
  rw [decide_eq_true (by omega : (a19.length : Int) = (b19.length : Int))]
  have L4 : spec_l36Small.l4 dn iterJ 0 a0 a1 a2 a3 a4 a5 a6 a7 a8 a9 a10 a11 a12 a13 a14 a15 a16 a17 a18 a19 b0 b1 b2 b3 b4 b5 b6 b7 b8 b9 b10 b11 b12 b13 b14 b15 b16 b17 b18 b19 = bif decide (a19 = b19) then rB true else rB false := eq_spec_l36Small_l4 a0 a1 a2 a3 a4 a5 a6 a7 a8 a9 a10 a11 a12 a13 a14 a15 a16 a17 a18 a19 b0 b1 b2 b3 b4 b5 b6 b7 b8 b9 b10 b11 b12 b13 b14 b15 b16 b17 b18 b19 h19 hc19 hd19 (by rw [spec_l36Small.l4_eq fix, not_lt_nat (Nat.le_refl _)]; rfl)
  have L3 : spec_l36Small.l3 dn iterJ 0 a0 a1 a2 a3 a4 a5 a6 a7 a8 a9 a10 a11 a12 a13 a14 a15 a16 a17 a18 a19 b0 b1 b2 b3 b4 b5 b6 b7 b8 b9 b10 b11 b12 b13 b14 b15 b16 b17 b18 b19 = bif decide (a14 = b14) then (bif decide (a19 = b19) then rB true else rB false) else rB false := eq_spec_l36Small_l3 a0 a1 a2 a3 a4 a5 a6 a7 a8 a9 a10 a11 a12 a13 a14 a15 a16 a17 a18 a19 b0 b1 b2 b3 b4 b5 b6 b7 b8 b9 b10 b11 b12 b13 b14 b15 b16 b17 b18 b19 h14 hc14 hd14 (by rw [spec_l36Small.l3_eq fix, not_lt_nat (Nat.le_refl _)]; exact L4)
  have L2 : spec_l36Small.l2 dn iterJ 0 a0 a1 a2 a3 a4 a5 a6 a7 a8 a9 a10 a11 a12 a13 a14 a15 a16 a17 a18 a19 b0 b1 b2 b3 b4 b5 b6 b7 b8 b9 b10 b11 b12 b13 b14 b15 b16 b17 b18 b19 = bif decide (a13 = b13) then (bif decide (a14 = b14) then (bif decide (a19 = b19) then rB true else rB false) else rB false) else rB false := eq_spec_l36Small_l2 a0 a1 a2 a3 a4 a5 a6 a7 a8 a9 a10 a11 a12 a13 a14 a15 a16 a17 a18 a19 b0 b1 b2 b3 b4 b5 b6 b7 b8 b9 b10 b11 b12 b13 b14 b15 b16 b17 b18 b19 h13 hc13 hd13 (by rw [spec_l36Small.l2_eq fix, not_lt_nat (Nat.le_refl _)]; exact L3)
  have L1 : spec_l36Small.l1 dn iterJ 0 a0 a1 a2 a3 a4 a5 a6 a7 a8 a9 a10 a11 a12 a13 a14 a15 a16 a17 a18 a19 b0 b1 b2 b3 b4 b5 b6 b7 b8 b9 b10 b11 b12 b13 b14 b15 b16 b17 b18 b19 = bif decide (a11 = b11) then (bif decide (a13 = b13) then (bif decide (a14 = b14) then (bif decide (a19 = b19) then rB true else rB false) else rB false) else rB false) else rB false := eq_spec_l36Small_l1 a0 a1 a2 a3 a4 a5 a6 a7 a8 a9 a10 a11 a12 a13 a14 a15 a16 a17 a18 a19 b0 b1 b2 b3 b4 b5 b6 b7 b8 b9 b10 b11 b12 b13 b14 b15 b16 b17 b18 b19 h11 hc11 hd11 (by rw [spec_l36Small.l1_eq fix, not_lt_nat (Nat.le_refl _)]; exact L2)
  have L0 : spec_l36Small.l0 dn iterJ 0 a0 a1 a2 a3 a4 a5 a6 a7 a8 a9 a10 a11 a12 a13 a14 a15 a16 a17 a18 a19 b0 b1 b2 b3 b4 b5 b6 b7 b8 b9 b10 b11 b12 b13 b14 b15 b16 b17 b18 b19 = bif decide (a8 = b8) then (bif decide (a11 = b11) then (bif decide (a13 = b13) then (bif decide (a14 = b14) then (bif decide (a19 = b19) then rB true else rB false) else rB false) else rB false) else rB false) else rB false := eq_spec_l36Small_l0 a0 a1 a2 a3 a4 a5 a6 a7 a8 a9 a10 a11 a12 a13 a14 a15 a16 a17 a18 a19 b0 b1 b2 b3 b4 b5 b6 b7 b8 b9 b10 b11 b12 b13 b14 b15 b16 b17 b18 b19 h8 hc8 hd8 (by rw [spec_l36Small.l0_eq fix, not_lt_nat (Nat.le_refl _)]; exact L1)
  refine (show _ = spec_l36Small.l0 dn iterJ 0 a0 a1 a2 a3 a4 a5 a6 a7 a8 a9 a10 a11 a12 a13 a14 a15 a16 a17 a18 a19 b0 b1 b2 b3 b4 b5 b6 b7 b8 b9 b10 b11 b12 b13 b14 b15 b16 b17 b18 b19 from rfl).trans (L0.trans ?_)
  by_cases e0 : a8 = b8
  rotate_left
  · simp [e0]
  by_cases e1 : a11 = b11
  rotate_left
  · simp [e1]
  by_cases e2 : a13 = b13
  rotate_left
  · simp [e2]
  by_cases e3 : a14 = b14
  rotate_left
  · simp [e3]
  by_cases e4 : a19 = b19
  rotate_left
  · simp [e4]
  simp [e0, e1, e2, e3, e4]
end
end Go.Proofs.YtpkhifegfpehpaaGreat.Eng
