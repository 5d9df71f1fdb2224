/- Conditions, compared. -/
import Derived.Test.YtpkhifegfpehpaaGreatPQ1
namespace Go.Proofs.YtpkhifegfpehpaaGreat.Eng
open Go.RowKit
section
open Classical
set_option linter.unusedVariables false
set_option linter.unusedSimpArgs false
set_option maxRecDepth 100000
theorem eq_spec_EqualConds : ∀ (n : Nat) (x0 x1 x2 : Int) (xs : List (List U)) (y0 y1 y2 : Int) (ys : List (List U)), cntRs xs ≤ n → WR tabs.ct 266 xs → WR tabs.ct 266 ys → spec_EqualConds.c dn x0 x1 x2 xs y0 y1 y2 ys = rB (decide (x0 = y0 ∧ x1 = y1 ∧ x2 = y2 ∧ xs = ys)) := by
  intro n
  induction n with
  | zero =>
    intro x0 x1 x2 xs y0 y1 y2 ys hn hx hy
    have hl := cntRs_length xs
    obtain rfl : xs = [] := List.eq_nil_of_length_eq_zero (by omega)
    rw [spec_EqualConds.eq fix]
    by_cases e0 : x0 = y0
    rotate_left
    · simp [e0]
    by_cases e1 : x1 = y1
    rotate_left
    · simp [e1]
    by_cases e2 : x2 = y2
    rotate_left
    · simp [e2]
    cases ys with
    | nil =>
      rw [spec_EqualConds.l0_eq fix]
      simp [e0, e1, e2]
    | cons y ys =>
      have hz : ¬ ((0 : Int) = (ys.length : Int) + 1) := by omega
      simp [e0, e1, e2, hz]
  | succ n ih =>
    intro x0 x1 x2 xs y0 y1 y2 ys hn hx hy
    have hm := hx.1
    rw [spec_EqualConds.eq fix]
    by_cases e0 : x0 = y0
    rotate_left
    · simp [e0]
    by_cases e1 : x1 = y1
    rotate_left
    · simp [e1]
    by_cases e2 : x2 = y2
    rotate_left
    · simp [e2]
    by_cases hl : xs.length = ys.length
    · rw [decide_eq_true e0, decide_eq_true e1, decide_eq_true e2, decide_eq_true (by omega : (xs.length : Int) = (ys.length : Int))]
      refine (eq_loop (l0 := fun i => spec_EqualConds.l0 dn iterJ i x0 x1 x2 xs y0 y1 y2 ys) (R := rB true) (F := rB false) hl ?_ fun i hi => ?_).trans (by simp only [e0, e1, e2, true_and]; exact bif_dec _ _)
      · rw [spec_EqualConds.l0_eq fix, not_lt_nat (Nat.le_refl _)]; rfl
      · have hj : i < ys.length := hl ▸ hi
        have hc := cntR_mem (getD_mem hi (z := []))
        obtain ⟨c0, c1, c2, c3, hrc, hc3⟩ := row266 (hx.2 _ (getD_mem hi (z := [])))
        obtain ⟨d0, d1, d2, d3, hrd, hd3⟩ := row266 (hy.2 _ (getD_mem hj (z := [])))
        rw [hrc] at hc
        simp only [cntR, cntU] at hc
        rw [spec_EqualConds.l0_eq fix, lt_nat hi, inRange_nat, inRange_nat, decide_eq_true hi, decide_eq_true hj, Int.toNat_natCast, wrap_nat (n := i) (by omega), hrc, hrd]
        simp only [List.getD_cons_zero, List.getD_cons_succ, U.toInt_int, U.toLst_lst, cond_true]
        rw [ih c0 c1 c2 c3 d0 d1 d2 d3 (by omega) hc3 hd3]
        simp only [Option.bind_some, Ret.u_mk, List.getD_cons_zero, U.toBool_bool]
        by_cases h : c0 = d0 ∧ c1 = d1 ∧ c2 = d2 ∧ c3 = d3
        · obtain ⟨rfl, rfl, rfl, rfl⟩ := h
          simp
        · rw [decide_eq_false h, decide_eq_false (fun q => h (by simpa using q))]; rfl
    · rw [decide_eq_true e0, decide_eq_true e1, decide_eq_true e2, decide_eq_false (by omega : ¬ (xs.length : Int) = (ys.length : Int)), decide_eq_false (fun h => hl (congrArg List.length h.2.2.2))]; rfl
theorem eq_slices_EqualFunc_7 : ∀ (n : Nat) (a b : List (List U)), cntRs a ≤ n → WR tabs.ct 266 a → WR tabs.ct 266 b → slices_EqualFunc_7.c dn a b = rB (decide (a = b)) := by
  intro n
  induction n with
  | zero =>
    intro a b hn ha hb
    have hl := cntRs_length a
    obtain rfl : a = [] := List.eq_nil_of_length_eq_zero (by omega)
    rw [slices_EqualFunc_7.eq fix]
    cases b with
    | nil =>
      rw [slices_EqualFunc_7.l0_eq fix]
      simp
    | cons y ys =>
      have hz : ¬ ((0 : Int) = (ys.length : Int) + 1) := by omega
      simp [hz]
  | succ n ih =>
    intro a b hn ha hb
    have hm := ha.1
    rw [slices_EqualFunc_7.eq fix]
    by_cases hl : a.length = b.length
    · rw [decide_eq_true (by omega : (a.length : Int) = (b.length : Int))]
      refine (eq_loop (l0 := fun i => slices_EqualFunc_7.l0 dn iterJ b a (a.length : Int) i) (R := rB true) (F := rB false) hl ?_ fun i hi => ?_).trans (by exact bif_dec _ _)
      · rw [slices_EqualFunc_7.l0_eq fix, not_lt_nat (Nat.le_refl _)]; rfl
      · have hj : i < b.length := hl ▸ hi
        have hc := cntR_mem (getD_mem hi (z := []))
        obtain ⟨c0, c1, c2, c3, hrc, hc3⟩ := row266 (ha.2 _ (getD_mem hi (z := [])))
        obtain ⟨d0, d1, d2, d3, hrd, hd3⟩ := row266 (hb.2 _ (getD_mem hj (z := [])))
        rw [hrc] at hc
        simp only [cntR, cntU] at hc
        rw [slices_EqualFunc_7.l0_eq fix, lt_nat hi, inRange_nat, inRange_nat, decide_eq_true hi, decide_eq_true hj, Int.toNat_natCast, wrap_nat (n := i) (by omega), hrc, hrd, impl_EqualConds.eq fix]
        simp only [List.getD_cons_zero, List.getD_cons_succ, U.toInt_int, U.toLst_lst, cond_true]
        rw [ih c3 d3 (by omega) hc3 hd3]
        by_cases e0 : c0 = d0
        rotate_left
        · simp [e0]
        by_cases e1 : c1 = d1
        rotate_left
        · simp [e1]
        by_cases e2 : c2 = d2
        rotate_left
        · simp [e2]
        by_cases e3 : c3 = d3
        rotate_left
        · simp [e3]
        simp [e0, e1, e2, e3]
    · rw [decide_eq_false (by omega : ¬ (a.length : Int) = (b.length : Int)), decide_eq_false (fun h => hl (congrArg List.length h))]; rfl
theorem eq_sconds (c0 d0 c1 d1 c2 d2 : Int) (c3 d3 : List (List U)) (hc3 : WR tabs.ct 266 c3) (hd3 : WR tabs.ct 266 d3) : spec_EqualConds.c dn c0 c1 c2 c3 d0 d1 d2 d3 = rB (decide (c0 = d0 ∧ c1 = d1 ∧ c2 = d2 ∧ c3 = d3)) := eq_spec_EqualConds _ _ _ _ _ _ _ _ _ (Nat.le_refl _) hc3 hd3
theorem eq_iconds (c0 d0 c1 d1 c2 d2 : Int) (c3 d3 : List (List U)) (hc3 : WR tabs.ct 266 c3) (hd3 : WR tabs.ct 266 d3) : impl_EqualConds.c dn c0 c1 c2 c3 d0 d1 d2 d3 = rB (decide (c0 = d0 ∧ c1 = d1 ∧ c2 = d2 ∧ c3 = d3)) := by
  rw [impl_EqualConds.eq fix, eq_slices_EqualFunc_7 _ _ _ (Nat.le_refl _) hc3 hd3]
  by_cases e0 : c0 = d0
  rotate_left
  · simp [e0]
  by_cases e1 : c1 = d1
  rotate_left
  · simp [e1]
  by_cases e2 : c2 = d2
  rotate_left
  · simp [e2]
  by_cases e3 : c3 = d3
  rotate_left
  · simp [e3]
  simp [e0, e1, e2, e3]
end
end Go.Proofs.YtpkhifegfpehpaaGreat.Eng
