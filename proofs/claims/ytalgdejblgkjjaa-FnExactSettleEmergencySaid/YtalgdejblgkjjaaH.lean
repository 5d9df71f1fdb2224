/- What the laws' helpers do, written by a program of ours (wip/bin/har2.py) for this claim. -/
import Derived.Test.YtalgdejblgkjjaaPM
import Derived.Test.YtalgdejblgkjjaaBase
import Derived.Test.YtalgdejblgkjjaaF0
namespace Go.Proofs.Ytalgdejblgkjjaa.Eng
open Go.RowKit
set_option linter.unusedVariables false
set_option linter.unusedSimpArgs false
set_option maxRecDepth 100000
theorem row3 {x : List U} (h : WTs tabs.ct (tabs.ct 3) x) : ∃ (c0 : Int), x = [.int c0] := by
  have h : WTs tabs.ct [.int .i64] x := h
  obtain ⟨u0, x0, rfl, k0, h⟩ := h.cons
  obtain rfl := h.nil
  obtain ⟨c0, rfl, w0⟩ := k0.int_inv
  exact ⟨c0, rfl⟩
theorem row33 {x : List U} (h : WTs tabs.ct (tabs.ct 33) x) : ∃ (c0 : List (List U)) (c1 : List (List U)) (c2 : Int), x = [.lst c0, .lst c1, .int c2] ∧ WR tabs.ct 3 c0 ∧ WR tabs.ct 3 c1 := by
  have h : WTs tabs.ct [.slc 3, .slc 3, .int .i64] x := h
  obtain ⟨u0, x0, rfl, k0, h⟩ := h.cons
  obtain ⟨u1, x1, rfl, k1, h⟩ := h.cons
  obtain ⟨u2, x2, rfl, k2, h⟩ := h.cons
  obtain rfl := h.nil
  obtain ⟨c0, rfl, w0⟩ := k0.slc_inv
  obtain ⟨c1, rfl, w1⟩ := k1.slc_inv
  obtain ⟨c2, rfl, w2⟩ := k2.int_inv
  exact ⟨c0, c1, c2, rfl, w0, w1⟩
theorem row53 {x : List U} (h : WTs tabs.ct (tabs.ct 53) x) : ∃ (c0 : Int) (c1 : Int) (c2 : Int) (c3 : Int) (c4 : Int) (c5 : Int) (c6 : Int) (c7 : Int) (c8 : Int) (c9 : Int) (c10 : Int) (c11 : Int) (c12 : List (List U)) (c13 : List (List U)), x = [.int c0, .int c1, .int c2, .int c3, .int c4, .int c5, .int c6, .int c7, .int c8, .int c9, .int c10, .int c11, .lst c12, .lst c13] ∧ WR tabs.ct 90 c12 ∧ WR tabs.ct 3 c13 := by
  have h : WTs tabs.ct [.int .i64, .int .i64, .int .i64, .int .i64, .int .i64, .int .i64, .int .i64, .int .i64, .int .i64, .int .i64, .int .i64, .int .i64, .slc 90, .slc 3] x := h
  obtain ⟨u0, x0, rfl, k0, h⟩ := h.cons
  obtain ⟨u1, x1, rfl, k1, h⟩ := h.cons
  obtain ⟨u2, x2, rfl, k2, h⟩ := h.cons
  obtain ⟨u3, x3, rfl, k3, h⟩ := h.cons
  obtain ⟨u4, x4, rfl, k4, h⟩ := h.cons
  obtain ⟨u5, x5, rfl, k5, h⟩ := h.cons
  obtain ⟨u6, x6, rfl, k6, h⟩ := h.cons
  obtain ⟨u7, x7, rfl, k7, h⟩ := h.cons
  obtain ⟨u8, x8, rfl, k8, h⟩ := h.cons
  obtain ⟨u9, x9, rfl, k9, h⟩ := h.cons
  obtain ⟨u10, x10, rfl, k10, h⟩ := h.cons
  obtain ⟨u11, x11, rfl, k11, h⟩ := h.cons
  obtain ⟨u12, x12, rfl, k12, h⟩ := h.cons
  obtain ⟨u13, x13, rfl, k13, h⟩ := h.cons
  obtain rfl := h.nil
  obtain ⟨c0, rfl, w0⟩ := k0.int_inv
  obtain ⟨c1, rfl, w1⟩ := k1.int_inv
  obtain ⟨c2, rfl, w2⟩ := k2.int_inv
  obtain ⟨c3, rfl, w3⟩ := k3.int_inv
  obtain ⟨c4, rfl, w4⟩ := k4.int_inv
  obtain ⟨c5, rfl, w5⟩ := k5.int_inv
  obtain ⟨c6, rfl, w6⟩ := k6.int_inv
  obtain ⟨c7, rfl, w7⟩ := k7.int_inv
  obtain ⟨c8, rfl, w8⟩ := k8.int_inv
  obtain ⟨c9, rfl, w9⟩ := k9.int_inv
  obtain ⟨c10, rfl, w10⟩ := k10.int_inv
  obtain ⟨c11, rfl, w11⟩ := k11.int_inv
  obtain ⟨c12, rfl, w12⟩ := k12.slc_inv
  obtain ⟨c13, rfl, w13⟩ := k13.slc_inv
  exact ⟨c0, c1, c2, c3, c4, c5, c6, c7, c8, c9, c10, c11, c12, c13, rfl, w12, w13⟩
theorem row57 {x : List U} (h : WTs tabs.ct (tabs.ct 57) x) : ∃ (c0 : Int) (c1 : Int) (c2 : Int) (c3 : Int) (c4 : Int) (c5 : Int) (c6 : Int) (c7 : Int) (c8 : Int) (c9 : Int) (c10 : Int) (c11 : Int) (c12 : List (List U)) (c13 : List (List U)), x = [.int c0, .int c1, .int c2, .int c3, .int c4, .int c5, .int c6, .int c7, .int c8, .int c9, .int c10, .int c11, .lst c12, .lst c13] ∧ WR tabs.ct 95 c12 ∧ WR tabs.ct 3 c13 := by
  have h : WTs tabs.ct [.int .i64, .int .i64, .int .i64, .int .i64, .int .i64, .int .i64, .int .i64, .int .i64, .int .i64, .int .i64, .int .i64, .int .i64, .slc 95, .slc 3] x := h
  obtain ⟨u0, x0, rfl, k0, h⟩ := h.cons
  obtain ⟨u1, x1, rfl, k1, h⟩ := h.cons
  obtain ⟨u2, x2, rfl, k2, h⟩ := h.cons
  obtain ⟨u3, x3, rfl, k3, h⟩ := h.cons
  obtain ⟨u4, x4, rfl, k4, h⟩ := h.cons
  obtain ⟨u5, x5, rfl, k5, h⟩ := h.cons
  obtain ⟨u6, x6, rfl, k6, h⟩ := h.cons
  obtain ⟨u7, x7, rfl, k7, h⟩ := h.cons
  obtain ⟨u8, x8, rfl, k8, h⟩ := h.cons
  obtain ⟨u9, x9, rfl, k9, h⟩ := h.cons
  obtain ⟨u10, x10, rfl, k10, h⟩ := h.cons
  obtain ⟨u11, x11, rfl, k11, h⟩ := h.cons
  obtain ⟨u12, x12, rfl, k12, h⟩ := h.cons
  obtain ⟨u13, x13, rfl, k13, h⟩ := h.cons
  obtain rfl := h.nil
  obtain ⟨c0, rfl, w0⟩ := k0.int_inv
  obtain ⟨c1, rfl, w1⟩ := k1.int_inv
  obtain ⟨c2, rfl, w2⟩ := k2.int_inv
  obtain ⟨c3, rfl, w3⟩ := k3.int_inv
  obtain ⟨c4, rfl, w4⟩ := k4.int_inv
  obtain ⟨c5, rfl, w5⟩ := k5.int_inv
  obtain ⟨c6, rfl, w6⟩ := k6.int_inv
  obtain ⟨c7, rfl, w7⟩ := k7.int_inv
  obtain ⟨c8, rfl, w8⟩ := k8.int_inv
  obtain ⟨c9, rfl, w9⟩ := k9.int_inv
  obtain ⟨c10, rfl, w10⟩ := k10.int_inv
  obtain ⟨c11, rfl, w11⟩ := k11.int_inv
  obtain ⟨c12, rfl, w12⟩ := k12.slc_inv
  obtain ⟨c13, rfl, w13⟩ := k13.slc_inv
  exact ⟨c0, c1, c2, c3, c4, c5, c6, c7, c8, c9, c10, c11, c12, c13, rfl, w12, w13⟩
theorem row63 {x : List U} (h : WTs tabs.ct (tabs.ct 63) x) : ∃ (c0 : Int) (c1 : Int) (c2 : Int) (c3 : Int) (c4 : List (List U)) (c5 : Bool), x = [.int c0, .int c1, .int c2, .int c3, .lst c4, .bool c5] ∧ WR tabs.ct 3 c4 := by
  have h : WTs tabs.ct [.int .i64, .int .i64, .int .i64, .int .i64, .slc 3, .bool] x := h
  obtain ⟨u0, x0, rfl, k0, h⟩ := h.cons
  obtain ⟨u1, x1, rfl, k1, h⟩ := h.cons
  obtain ⟨u2, x2, rfl, k2, h⟩ := h.cons
  obtain ⟨u3, x3, rfl, k3, h⟩ := h.cons
  obtain ⟨u4, x4, rfl, k4, h⟩ := h.cons
  obtain ⟨u5, x5, rfl, k5, h⟩ := h.cons
  obtain rfl := h.nil
  obtain ⟨c0, rfl, w0⟩ := k0.int_inv
  obtain ⟨c1, rfl, w1⟩ := k1.int_inv
  obtain ⟨c2, rfl, w2⟩ := k2.int_inv
  obtain ⟨c3, rfl, w3⟩ := k3.int_inv
  obtain ⟨c4, rfl, w4⟩ := k4.slc_inv
  obtain ⟨c5, rfl⟩ := k5.bool_inv
  exact ⟨c0, c1, c2, c3, c4, c5, rfl, w4⟩
theorem row67 {x : List U} (h : WTs tabs.ct (tabs.ct 67) x) : ∃ (c0 : Int) (c1 : Int) (c2 : Int) (c3 : Int) (c4 : List (List U)) (c5 : Bool), x = [.int c0, .int c1, .int c2, .int c3, .lst c4, .bool c5] ∧ WR tabs.ct 3 c4 := by
  have h : WTs tabs.ct [.int .i64, .int .i64, .int .i64, .int .i64, .slc 3, .bool] x := h
  obtain ⟨u0, x0, rfl, k0, h⟩ := h.cons
  obtain ⟨u1, x1, rfl, k1, h⟩ := h.cons
  obtain ⟨u2, x2, rfl, k2, h⟩ := h.cons
  obtain ⟨u3, x3, rfl, k3, h⟩ := h.cons
  obtain ⟨u4, x4, rfl, k4, h⟩ := h.cons
  obtain ⟨u5, x5, rfl, k5, h⟩ := h.cons
  obtain rfl := h.nil
  obtain ⟨c0, rfl, w0⟩ := k0.int_inv
  obtain ⟨c1, rfl, w1⟩ := k1.int_inv
  obtain ⟨c2, rfl, w2⟩ := k2.int_inv
  obtain ⟨c3, rfl, w3⟩ := k3.int_inv
  obtain ⟨c4, rfl, w4⟩ := k4.slc_inv
  obtain ⟨c5, rfl⟩ := k5.bool_inv
  exact ⟨c0, c1, c2, c3, c4, c5, rfl, w4⟩
theorem row88 {x : List U} (h : WTs tabs.ct (tabs.ct 88) x) : ∃ (c0 : Int) (c1 : Int) (c2 : Int) (c3 : List (List U)), x = [.int c0, .int c1, .int c2, .lst c3] ∧ WR tabs.ct 88 c3 := by
  have h : WTs tabs.ct [.int .i64, .int .i64, .int .i64, .slc 88] x := h
  obtain ⟨u0, x0, rfl, k0, h⟩ := h.cons
  obtain ⟨u1, x1, rfl, k1, h⟩ := h.cons
  obtain ⟨u2, x2, rfl, k2, h⟩ := h.cons
  obtain ⟨u3, x3, rfl, k3, h⟩ := h.cons
  obtain rfl := h.nil
  obtain ⟨c0, rfl, w0⟩ := k0.int_inv
  obtain ⟨c1, rfl, w1⟩ := k1.int_inv
  obtain ⟨c2, rfl, w2⟩ := k2.int_inv
  obtain ⟨c3, rfl, w3⟩ := k3.slc_inv
  exact ⟨c0, c1, c2, c3, rfl, w3⟩
theorem row90 {x : List U} (h : WTs tabs.ct (tabs.ct 90) x) : ∃ (c0 : Int) (c1 : Int) (c2 : Int) (c3 : Int) (c4 : Int) (c5 : Int) (c6 : List (List U)), x = [.int c0, .int c1, .int c2, .int c3, .int c4, .int c5, .lst c6] ∧ WR tabs.ct 88 c6 := by
  have h : WTs tabs.ct [.int .i64, .int .i64, .int .i64, .int .i64, .int .i64, .int .i64, .slc 88] x := h
  obtain ⟨u0, x0, rfl, k0, h⟩ := h.cons
  obtain ⟨u1, x1, rfl, k1, h⟩ := h.cons
  obtain ⟨u2, x2, rfl, k2, h⟩ := h.cons
  obtain ⟨u3, x3, rfl, k3, h⟩ := h.cons
  obtain ⟨u4, x4, rfl, k4, h⟩ := h.cons
  obtain ⟨u5, x5, rfl, k5, h⟩ := h.cons
  obtain ⟨u6, x6, rfl, k6, h⟩ := h.cons
  obtain rfl := h.nil
  obtain ⟨c0, rfl, w0⟩ := k0.int_inv
  obtain ⟨c1, rfl, w1⟩ := k1.int_inv
  obtain ⟨c2, rfl, w2⟩ := k2.int_inv
  obtain ⟨c3, rfl, w3⟩ := k3.int_inv
  obtain ⟨c4, rfl, w4⟩ := k4.int_inv
  obtain ⟨c5, rfl, w5⟩ := k5.int_inv
  obtain ⟨c6, rfl, w6⟩ := k6.slc_inv
  exact ⟨c0, c1, c2, c3, c4, c5, c6, rfl, w6⟩
theorem row93 {x : List U} (h : WTs tabs.ct (tabs.ct 93) x) : ∃ (c0 : Int) (c1 : Int) (c2 : Int) (c3 : List (List U)), x = [.int c0, .int c1, .int c2, .lst c3] ∧ WR tabs.ct 93 c3 := by
  have h : WTs tabs.ct [.int .i64, .int .i64, .int .i64, .slc 93] x := h
  obtain ⟨u0, x0, rfl, k0, h⟩ := h.cons
  obtain ⟨u1, x1, rfl, k1, h⟩ := h.cons
  obtain ⟨u2, x2, rfl, k2, h⟩ := h.cons
  obtain ⟨u3, x3, rfl, k3, h⟩ := h.cons
  obtain rfl := h.nil
  obtain ⟨c0, rfl, w0⟩ := k0.int_inv
  obtain ⟨c1, rfl, w1⟩ := k1.int_inv
  obtain ⟨c2, rfl, w2⟩ := k2.int_inv
  obtain ⟨c3, rfl, w3⟩ := k3.slc_inv
  exact ⟨c0, c1, c2, c3, rfl, w3⟩
theorem row95 {x : List U} (h : WTs tabs.ct (tabs.ct 95) x) : ∃ (c0 : Int) (c1 : Int) (c2 : Int) (c3 : Int) (c4 : Int) (c5 : Int) (c6 : List (List U)), x = [.int c0, .int c1, .int c2, .int c3, .int c4, .int c5, .lst c6] ∧ WR tabs.ct 93 c6 := by
  have h : WTs tabs.ct [.int .i64, .int .i64, .int .i64, .int .i64, .int .i64, .int .i64, .slc 93] x := h
  obtain ⟨u0, x0, rfl, k0, h⟩ := h.cons
  obtain ⟨u1, x1, rfl, k1, h⟩ := h.cons
  obtain ⟨u2, x2, rfl, k2, h⟩ := h.cons
  obtain ⟨u3, x3, rfl, k3, h⟩ := h.cons
  obtain ⟨u4, x4, rfl, k4, h⟩ := h.cons
  obtain ⟨u5, x5, rfl, k5, h⟩ := h.cons
  obtain ⟨u6, x6, rfl, k6, h⟩ := h.cons
  obtain rfl := h.nil
  obtain ⟨c0, rfl, w0⟩ := k0.int_inv
  obtain ⟨c1, rfl, w1⟩ := k1.int_inv
  obtain ⟨c2, rfl, w2⟩ := k2.int_inv
  obtain ⟨c3, rfl, w3⟩ := k3.int_inv
  obtain ⟨c4, rfl, w4⟩ := k4.int_inv
  obtain ⟨c5, rfl, w5⟩ := k5.int_inv
  obtain ⟨c6, rfl, w6⟩ := k6.slc_inv
  exact ⟨c0, c1, c2, c3, c4, c5, c6, rfl, w6⟩
theorem to_IntS (xs : List (List U)) (h : WR tabs.ct 3 xs) (hc : cntRs xs ≤ 1048576) : laws_toIntS.c dn xs = some ⟨[[.lst xs]], []⟩ := by
  have hl := cntRs_length xs
  rw [laws_toIntS.eq fix, Int.toNat_natCast, room_true (by omega) (by omega), decide_eq_true (by omega)]
  show laws_toIntS.l0 dn iterL xs 0 (List.replicate xs.length _) = _
  refine (fill_loop (l0 := fun i s => laws_toIntS.l0 dn iterL xs i s) (row := fun i => xs.getD i []) (R := fun s => some ⟨[[.lst s]], []⟩) (fun s hs => ?_) (fun i hi s hs hz => ?_)).trans (by rw [range_getD])
  · show laws_toIntS.l0 dn iterL xs _ s = _
    rw [laws_toIntS.l0_eq fix, not_lt_nat (Nat.le_refl _)]; rfl
  · obtain ⟨c0, hrow⟩ := row3 (h.2 _ (getD_mem hi (z := [])))
    have hcn := cntR_mem (getD_mem hi (z := []))
    rw [hrow] at hcn
    simp only [cntR, cntU] at hcn
    show laws_toIntS.l0 dn iterL xs _ s = laws_toIntS.l0 dn iterL xs _ _
    rw [laws_toIntS.l0_eq fix, lt_nat hi, inRange_nat, inRange_nat, decide_eq_true hi, decide_eq_true (by omega : i < s.length), Int.toNat_natCast, hrow, wrap_nat (by omega)]
    simp (disch := first | assumption | omega) only [Option.bind_some, Ret.u_mk, Ret.m_mk, List.getD_cons_zero, List.getD_cons_succ, U.toInt_int, U.toBool_bool, U.toStr_str, U.toLst_lst, cond_true, cond_false, setEl_eq, hz, splice_nil, splice_cons, List.set_cons_zero, List.set_cons_succ, Option.bind_some]
theorem to_Request (c0 : Int) (c1 : Int) (c2 : Int) (c3 : Int) (c4 : Int) (c5 : Int) : laws_toRequest.c dn c0 c1 c2 c3 c4 c5 = some ⟨[[.int c0, .int c1, .int c2, .int c3, .int c4, .int c5]], []⟩ := by
  rw [laws_toRequest.eq fix]
  try simp (disch := first | assumption | omega) only [Option.bind_some, Ret.u_mk, Ret.m_mk, List.getD_cons_zero, List.getD_cons_succ, U.toInt_int, U.toBool_bool, U.toStr_str, U.toLst_lst, cond_true, cond_false, to_IntS]
theorem to_CondS_n : ∀ (n : Nat) (xs : List (List U)), cntRs xs ≤ n → WR tabs.ct 88 xs → cntRs xs ≤ 1048576 → laws_toCondS.c dn xs = some ⟨[[.lst xs]], []⟩ := by
  intro n
  induction n with
  | zero =>
    intro xs hn h hc
    have hl := cntRs_length xs
    obtain rfl : xs = [] := List.eq_nil_of_length_eq_zero (by omega)
    rw [laws_toCondS.eq fix]
    show laws_toCondS.l0 dn iterL [] 0 [] = _
    rw [laws_toCondS.l0_eq fix]; rfl
  | succ n ih =>
    intro xs hn h hc
    have hl := cntRs_length xs
    rw [laws_toCondS.eq fix, Int.toNat_natCast, room_true (by omega) (by omega), decide_eq_true (by omega)]
    show laws_toCondS.l0 dn iterL xs 0 (List.replicate xs.length _) = _
    refine (fill_loop (l0 := fun i s => laws_toCondS.l0 dn iterL xs i s) (row := fun i => xs.getD i []) (R := fun s => some ⟨[[.lst s]], []⟩) (fun s hs => ?_) (fun i hi s hs hz => ?_)).trans (by rw [range_getD])
    · show laws_toCondS.l0 dn iterL xs _ s = _
      rw [laws_toCondS.l0_eq fix, not_lt_nat (Nat.le_refl _)]; rfl
    · obtain ⟨c0, c1, c2, c3, hrow, hc3⟩ := row88 (h.2 _ (getD_mem hi (z := [])))
      have hcn := cntR_mem (getD_mem hi (z := []))
      rw [hrow] at hcn
      simp only [cntR, cntU] at hcn
      show laws_toCondS.l0 dn iterL xs _ s = laws_toCondS.l0 dn iterL xs _ _
      rw [laws_toCondS.l0_eq fix, lt_nat hi, inRange_nat, inRange_nat, decide_eq_true hi, decide_eq_true (by omega : i < s.length), Int.toNat_natCast, hrow, wrap_nat (by omega)]
      simp (disch := first | assumption | omega) only [Option.bind_some, Ret.u_mk, Ret.m_mk, List.getD_cons_zero, List.getD_cons_succ, U.toInt_int, U.toBool_bool, U.toStr_str, U.toLst_lst, cond_true, cond_false, setEl_eq, hz, splice_nil, splice_cons, List.set_cons_zero, List.set_cons_succ, laws_toCond.eq fix, ih]
theorem to_CondS (xs : List (List U)) (h : WR tabs.ct 88 xs) (hc : cntRs xs ≤ 1048576) : laws_toCondS.c dn xs = some ⟨[[.lst xs]], []⟩ := to_CondS_n _ xs (Nat.le_refl _) h hc
theorem to_Cond (c0 : Int) (c1 : Int) (c2 : Int) (c3 : List (List U)) (hc3 : WR tabs.ct 88 c3) (bc3 : cntRs c3 ≤ 1048576) : laws_toCond.c dn c0 c1 c2 c3 = some ⟨[[.int c0, .int c1, .int c2, .lst c3]], []⟩ := by
  rw [laws_toCond.eq fix]
  try simp (disch := first | assumption | omega) only [Option.bind_some, Ret.u_mk, Ret.m_mk, List.getD_cons_zero, List.getD_cons_succ, U.toInt_int, U.toBool_bool, U.toStr_str, U.toLst_lst, cond_true, cond_false, to_IntS, to_Request, to_CondS]
theorem to_Rule (c0 : Int) (c1 : Int) (c2 : Int) (c3 : Int) (c4 : Int) (c5 : Int) (c6 : List (List U)) (hc6 : WR tabs.ct 88 c6) (bc6 : cntRs c6 ≤ 1048576) : laws_toRule.c dn c0 c1 c2 c3 c4 c5 c6 = some ⟨[[.int c0, .int c1, .int c2, .int c3, .int c4, .int c5, .lst c6]], []⟩ := by
  rw [laws_toRule.eq fix]
  try simp (disch := first | assumption | omega) only [Option.bind_some, Ret.u_mk, Ret.m_mk, List.getD_cons_zero, List.getD_cons_succ, U.toInt_int, U.toBool_bool, U.toStr_str, U.toLst_lst, cond_true, cond_false, to_IntS, to_Request, to_CondS, to_Cond]
theorem to_RuleS (xs : List (List U)) (h : WR tabs.ct 90 xs) (hc : cntRs xs ≤ 1048576) : laws_toRuleS.c dn xs = some ⟨[[.lst xs]], []⟩ := by
  have hl := cntRs_length xs
  rw [laws_toRuleS.eq fix, Int.toNat_natCast, room_true (by omega) (by omega), decide_eq_true (by omega)]
  show laws_toRuleS.l0 dn iterL xs 0 (List.replicate xs.length _) = _
  refine (fill_loop (l0 := fun i s => laws_toRuleS.l0 dn iterL xs i s) (row := fun i => xs.getD i []) (R := fun s => some ⟨[[.lst s]], []⟩) (fun s hs => ?_) (fun i hi s hs hz => ?_)).trans (by rw [range_getD])
  · show laws_toRuleS.l0 dn iterL xs _ s = _
    rw [laws_toRuleS.l0_eq fix, not_lt_nat (Nat.le_refl _)]; rfl
  · obtain ⟨c0, c1, c2, c3, c4, c5, c6, hrow, hc6⟩ := row90 (h.2 _ (getD_mem hi (z := [])))
    have hcn := cntR_mem (getD_mem hi (z := []))
    rw [hrow] at hcn
    simp only [cntR, cntU] at hcn
    show laws_toRuleS.l0 dn iterL xs _ s = laws_toRuleS.l0 dn iterL xs _ _
    rw [laws_toRuleS.l0_eq fix, lt_nat hi, inRange_nat, inRange_nat, decide_eq_true hi, decide_eq_true (by omega : i < s.length), Int.toNat_natCast, hrow, wrap_nat (by omega)]
    simp (disch := first | assumption | omega) only [Option.bind_some, Ret.u_mk, Ret.m_mk, List.getD_cons_zero, List.getD_cons_succ, U.toInt_int, U.toBool_bool, U.toStr_str, U.toLst_lst, cond_true, cond_false, setEl_eq, hz, splice_nil, splice_cons, List.set_cons_zero, List.set_cons_succ, to_IntS, to_Request, to_CondS, to_Cond, to_Rule]
theorem to_Event (c0 : Int) (c1 : Int) (c2 : Int) (c3 : Int) (c4 : Int) (c5 : Int) (c6 : Int) (c7 : Int) (c8 : Int) (c9 : Int) (c10 : Int) (c11 : Int) (c12 : List (List U)) (c13 : List (List U)) (hc12 : WR tabs.ct 90 c12) (bc12 : cntRs c12 ≤ 1048576) (hc13 : WR tabs.ct 3 c13) (bc13 : cntRs c13 ≤ 1048576) : laws_toEvent.c dn c0 c1 c2 c3 c4 c5 c6 c7 c8 c9 c10 c11 c12 c13 = some ⟨[[.int c0, .int c1, .int c2, .int c3, .int c4, .int c5, .int c6, .int c7, .int c8, .int c9, .int c10, .int c11, .lst c12, .lst c13]], []⟩ := by
  rw [laws_toEvent.eq fix]
  try simp (disch := first | assumption | omega) only [Option.bind_some, Ret.u_mk, Ret.m_mk, List.getD_cons_zero, List.getD_cons_succ, U.toInt_int, U.toBool_bool, U.toStr_str, U.toLst_lst, cond_true, cond_false, to_IntS, to_Request, to_CondS, to_Cond, to_Rule, to_RuleS]
theorem to_EventS (xs : List (List U)) (h : WR tabs.ct 53 xs) (hc : cntRs xs ≤ 1048576) : laws_toEventS.c dn xs = some ⟨[[.lst xs]], []⟩ := by
  have hl := cntRs_length xs
  rw [laws_toEventS.eq fix, Int.toNat_natCast, room_true (by omega) (by omega), decide_eq_true (by omega)]
  show laws_toEventS.l0 dn iterL xs 0 (List.replicate xs.length _) = _
  refine (fill_loop (l0 := fun i s => laws_toEventS.l0 dn iterL xs i s) (row := fun i => xs.getD i []) (R := fun s => some ⟨[[.lst s]], []⟩) (fun s hs => ?_) (fun i hi s hs hz => ?_)).trans (by rw [range_getD])
  · show laws_toEventS.l0 dn iterL xs _ s = _
    rw [laws_toEventS.l0_eq fix, not_lt_nat (Nat.le_refl _)]; rfl
  · obtain ⟨c0, c1, c2, c3, c4, c5, c6, c7, c8, c9, c10, c11, c12, c13, hrow, hc12, hc13⟩ := row53 (h.2 _ (getD_mem hi (z := [])))
    have hcn := cntR_mem (getD_mem hi (z := []))
    rw [hrow] at hcn
    simp only [cntR, cntU] at hcn
    show laws_toEventS.l0 dn iterL xs _ s = laws_toEventS.l0 dn iterL xs _ _
    rw [laws_toEventS.l0_eq fix, lt_nat hi, inRange_nat, inRange_nat, decide_eq_true hi, decide_eq_true (by omega : i < s.length), Int.toNat_natCast, hrow, wrap_nat (by omega)]
    simp (disch := first | assumption | omega) only [Option.bind_some, Ret.u_mk, Ret.m_mk, List.getD_cons_zero, List.getD_cons_succ, U.toInt_int, U.toBool_bool, U.toStr_str, U.toLst_lst, cond_true, cond_false, setEl_eq, hz, splice_nil, splice_cons, List.set_cons_zero, List.set_cons_succ, to_IntS, to_Request, to_CondS, to_Cond, to_Rule, to_RuleS, to_Event]
theorem to_Plan (c0 : List (List U)) (c1 : List (List U)) (c2 : Int) (hc0 : WR tabs.ct 3 c0) (bc0 : cntRs c0 ≤ 1048576) (hc1 : WR tabs.ct 3 c1) (bc1 : cntRs c1 ≤ 1048576) : laws_toPlan.c dn c0 c1 c2 = some ⟨[[.lst c0, .lst c1, .int c2]], []⟩ := by
  rw [laws_toPlan.eq fix]
  try simp (disch := first | assumption | omega) only [Option.bind_some, Ret.u_mk, Ret.m_mk, List.getD_cons_zero, List.getD_cons_succ, U.toInt_int, U.toBool_bool, U.toStr_str, U.toLst_lst, cond_true, cond_false, to_IntS, to_Request, to_CondS, to_Cond, to_Rule, to_RuleS, to_Event, to_EventS]
theorem to_Emergency (c0 : Int) (c1 : Int) (c2 : Int) (c3 : Int) (c4 : List (List U)) (c5 : Bool) (hc4 : WR tabs.ct 3 c4) (bc4 : cntRs c4 ≤ 1048576) : laws_toEmergency.c dn c0 c1 c2 c3 c4 c5 = some ⟨[[.int c0, .int c1, .int c2, .int c3, .lst c4, .bool c5]], []⟩ := by
  rw [laws_toEmergency.eq fix]
  try simp (disch := first | assumption | omega) only [Option.bind_some, Ret.u_mk, Ret.m_mk, List.getD_cons_zero, List.getD_cons_succ, U.toInt_int, U.toBool_bool, U.toStr_str, U.toLst_lst, cond_true, cond_false, to_IntS, to_Request, to_CondS, to_Cond, to_Rule, to_RuleS, to_Event, to_EventS, to_Plan]
theorem to_EmergencyS (xs : List (List U)) (h : WR tabs.ct 63 xs) (hc : cntRs xs ≤ 1048576) : laws_toEmergencyS.c dn xs = some ⟨[[.lst xs]], []⟩ := by
  have hl := cntRs_length xs
  rw [laws_toEmergencyS.eq fix, Int.toNat_natCast, room_true (by omega) (by omega), decide_eq_true (by omega)]
  show laws_toEmergencyS.l0 dn iterL xs 0 (List.replicate xs.length _) = _
  refine (fill_loop (l0 := fun i s => laws_toEmergencyS.l0 dn iterL xs i s) (row := fun i => xs.getD i []) (R := fun s => some ⟨[[.lst s]], []⟩) (fun s hs => ?_) (fun i hi s hs hz => ?_)).trans (by rw [range_getD])
  · show laws_toEmergencyS.l0 dn iterL xs _ s = _
    rw [laws_toEmergencyS.l0_eq fix, not_lt_nat (Nat.le_refl _)]; rfl
  · obtain ⟨c0, c1, c2, c3, c4, c5, hrow, hc4⟩ := row63 (h.2 _ (getD_mem hi (z := [])))
    have hcn := cntR_mem (getD_mem hi (z := []))
    rw [hrow] at hcn
    simp only [cntR, cntU] at hcn
    show laws_toEmergencyS.l0 dn iterL xs _ s = laws_toEmergencyS.l0 dn iterL xs _ _
    rw [laws_toEmergencyS.l0_eq fix, lt_nat hi, inRange_nat, inRange_nat, decide_eq_true hi, decide_eq_true (by omega : i < s.length), Int.toNat_natCast, hrow, wrap_nat (by omega)]
    simp (disch := first | assumption | omega) only [Option.bind_some, Ret.u_mk, Ret.m_mk, List.getD_cons_zero, List.getD_cons_succ, U.toInt_int, U.toBool_bool, U.toStr_str, U.toLst_lst, cond_true, cond_false, setEl_eq, hz, splice_nil, splice_cons, List.set_cons_zero, List.set_cons_succ, to_IntS, to_Request, to_CondS, to_Cond, to_Rule, to_RuleS, to_Event, to_EventS, to_Plan, to_Emergency]
theorem eq_IntS (xs : List (List U)) (h : WR tabs.ct 3 xs) (hc : cntRs xs ≤ 1099511627776) : laws_eqIntS.c dn xs xs = some ⟨[[.bool true]], []⟩ := by
  have hl := cntRs_length xs
  rw [laws_eqIntS.eq fix, decide_eq_true rfl]
  show laws_eqIntS.l0 dn iterL xs xs 0 = _
  refine all_loop (l0 := fun i => laws_eqIntS.l0 dn iterL xs xs i) (n := xs.length) ?_ (fun i hi => ?_)
  · show laws_eqIntS.l0 dn iterL xs xs _ = _
    rw [laws_eqIntS.l0_eq fix, not_lt_nat (Nat.le_refl _)]; rfl
  · obtain ⟨c0, hrow⟩ := row3 (h.2 _ (getD_mem hi (z := [])))
    have hcn := cntR_mem (getD_mem hi (z := []))
    rw [hrow] at hcn
    simp only [cntR, cntU] at hcn
    show laws_eqIntS.l0 dn iterL xs xs _ = laws_eqIntS.l0 dn iterL xs xs _
    rw [laws_eqIntS.l0_eq fix, lt_nat hi, inRange_nat, decide_eq_true hi, Int.toNat_natCast, hrow, wrap_nat (by omega)]
    simp (disch := first | assumption | omega) [-List.getD_eq_getElem?_getD, Option.bind_some, Ret.u_mk, Ret.m_mk, List.getD_cons_zero, List.getD_cons_succ, U.toInt_int, U.toBool_bool, U.toStr_str, U.toLst_lst, cond_true, cond_false]
theorem eq_Request (c0 : Int) (c1 : Int) (c2 : Int) (c3 : Int) (c4 : Int) (c5 : Int) : laws_eqRequest.c dn c0 c1 c2 c3 c4 c5 c0 c1 c2 c3 c4 c5 = some ⟨[[.bool true]], []⟩ := by
  rw [laws_eqRequest.eq fix]
  simp (disch := first | assumption | omega) [-List.getD_eq_getElem?_getD, Option.bind_some, Ret.u_mk, Ret.m_mk, List.getD_cons_zero, List.getD_cons_succ, U.toInt_int, U.toBool_bool, U.toStr_str, U.toLst_lst, cond_true, cond_false, eq_IntS]
theorem eq_CondS_n : ∀ (n : Nat) (xs : List (List U)), cntRs xs ≤ n → WR tabs.ct 93 xs → cntRs xs ≤ 1099511627776 → laws_eqCondS.c dn xs xs = some ⟨[[.bool true]], []⟩ := by
  intro n
  induction n with
  | zero =>
    intro xs hn h hc
    have hl := cntRs_length xs
    obtain rfl : xs = [] := List.eq_nil_of_length_eq_zero (by omega)
    rw [laws_eqCondS.eq fix]
    show laws_eqCondS.l0 dn iterL [] [] 0 = _
    rw [laws_eqCondS.l0_eq fix]; rfl
  | succ n ih =>
    intro xs hn h hc
    have hl := cntRs_length xs
    rw [laws_eqCondS.eq fix, decide_eq_true rfl]
    show laws_eqCondS.l0 dn iterL xs xs 0 = _
    refine all_loop (l0 := fun i => laws_eqCondS.l0 dn iterL xs xs i) (n := xs.length) ?_ (fun i hi => ?_)
    · show laws_eqCondS.l0 dn iterL xs xs _ = _
      rw [laws_eqCondS.l0_eq fix, not_lt_nat (Nat.le_refl _)]; rfl
    · obtain ⟨c0, c1, c2, c3, hrow, hc3⟩ := row93 (h.2 _ (getD_mem hi (z := [])))
      have hcn := cntR_mem (getD_mem hi (z := []))
      rw [hrow] at hcn
      simp only [cntR, cntU] at hcn
      show laws_eqCondS.l0 dn iterL xs xs _ = laws_eqCondS.l0 dn iterL xs xs _
      rw [laws_eqCondS.l0_eq fix, lt_nat hi, inRange_nat, decide_eq_true hi, Int.toNat_natCast, hrow, wrap_nat (by omega)]
      simp (disch := first | assumption | omega) [-List.getD_eq_getElem?_getD, Option.bind_some, Ret.u_mk, Ret.m_mk, List.getD_cons_zero, List.getD_cons_succ, U.toInt_int, U.toBool_bool, U.toStr_str, U.toLst_lst, cond_true, cond_false, laws_eqCond.eq fix, ih]
theorem eq_CondS (xs : List (List U)) (h : WR tabs.ct 93 xs) (hc : cntRs xs ≤ 1099511627776) : laws_eqCondS.c dn xs xs = some ⟨[[.bool true]], []⟩ := eq_CondS_n _ xs (Nat.le_refl _) h hc
theorem eq_Cond (c0 : Int) (c1 : Int) (c2 : Int) (c3 : List (List U)) (hc3 : WR tabs.ct 93 c3) (bc3 : cntRs c3 ≤ 1099511627776) : laws_eqCond.c dn c0 c1 c2 c3 c0 c1 c2 c3 = some ⟨[[.bool true]], []⟩ := by
  rw [laws_eqCond.eq fix]
  simp (disch := first | assumption | omega) [-List.getD_eq_getElem?_getD, Option.bind_some, Ret.u_mk, Ret.m_mk, List.getD_cons_zero, List.getD_cons_succ, U.toInt_int, U.toBool_bool, U.toStr_str, U.toLst_lst, cond_true, cond_false, eq_IntS, eq_Request, eq_CondS]
theorem eq_Rule (c0 : Int) (c1 : Int) (c2 : Int) (c3 : Int) (c4 : Int) (c5 : Int) (c6 : List (List U)) (hc6 : WR tabs.ct 93 c6) (bc6 : cntRs c6 ≤ 1099511627776) : laws_eqRule.c dn c0 c1 c2 c3 c4 c5 c6 c0 c1 c2 c3 c4 c5 c6 = some ⟨[[.bool true]], []⟩ := by
  rw [laws_eqRule.eq fix]
  simp (disch := first | assumption | omega) [-List.getD_eq_getElem?_getD, Option.bind_some, Ret.u_mk, Ret.m_mk, List.getD_cons_zero, List.getD_cons_succ, U.toInt_int, U.toBool_bool, U.toStr_str, U.toLst_lst, cond_true, cond_false, eq_IntS, eq_Request, eq_CondS, eq_Cond]
theorem eq_RuleS (xs : List (List U)) (h : WR tabs.ct 95 xs) (hc : cntRs xs ≤ 1099511627776) : laws_eqRuleS.c dn xs xs = some ⟨[[.bool true]], []⟩ := by
  have hl := cntRs_length xs
  rw [laws_eqRuleS.eq fix, decide_eq_true rfl]
  show laws_eqRuleS.l0 dn iterL xs xs 0 = _
  refine all_loop (l0 := fun i => laws_eqRuleS.l0 dn iterL xs xs i) (n := xs.length) ?_ (fun i hi => ?_)
  · show laws_eqRuleS.l0 dn iterL xs xs _ = _
    rw [laws_eqRuleS.l0_eq fix, not_lt_nat (Nat.le_refl _)]; rfl
  · obtain ⟨c0, c1, c2, c3, c4, c5, c6, hrow, hc6⟩ := row95 (h.2 _ (getD_mem hi (z := [])))
    have hcn := cntR_mem (getD_mem hi (z := []))
    rw [hrow] at hcn
    simp only [cntR, cntU] at hcn
    show laws_eqRuleS.l0 dn iterL xs xs _ = laws_eqRuleS.l0 dn iterL xs xs _
    rw [laws_eqRuleS.l0_eq fix, lt_nat hi, inRange_nat, decide_eq_true hi, Int.toNat_natCast, hrow, wrap_nat (by omega)]
    simp (disch := first | assumption | omega) [-List.getD_eq_getElem?_getD, Option.bind_some, Ret.u_mk, Ret.m_mk, List.getD_cons_zero, List.getD_cons_succ, U.toInt_int, U.toBool_bool, U.toStr_str, U.toLst_lst, cond_true, cond_false, eq_IntS, eq_Request, eq_CondS, eq_Cond, eq_Rule]
theorem eq_Event (c0 : Int) (c1 : Int) (c2 : Int) (c3 : Int) (c4 : Int) (c5 : Int) (c6 : Int) (c7 : Int) (c8 : Int) (c9 : Int) (c10 : Int) (c11 : Int) (c12 : List (List U)) (c13 : List (List U)) (hc12 : WR tabs.ct 95 c12) (bc12 : cntRs c12 ≤ 1099511627776) (hc13 : WR tabs.ct 3 c13) (bc13 : cntRs c13 ≤ 1099511627776) : laws_eqEvent.c dn c0 c1 c2 c3 c4 c5 c6 c7 c8 c9 c10 c11 c12 c13 c0 c1 c2 c3 c4 c5 c6 c7 c8 c9 c10 c11 c12 c13 = some ⟨[[.bool true]], []⟩ := by
  rw [laws_eqEvent.eq fix]
  simp (disch := first | assumption | omega) [-List.getD_eq_getElem?_getD, Option.bind_some, Ret.u_mk, Ret.m_mk, List.getD_cons_zero, List.getD_cons_succ, U.toInt_int, U.toBool_bool, U.toStr_str, U.toLst_lst, cond_true, cond_false, eq_IntS, eq_Request, eq_CondS, eq_Cond, eq_Rule, eq_RuleS]
theorem eq_EventS (xs : List (List U)) (h : WR tabs.ct 57 xs) (hc : cntRs xs ≤ 1099511627776) : laws_eqEventS.c dn xs xs = some ⟨[[.bool true]], []⟩ := by
  have hl := cntRs_length xs
  rw [laws_eqEventS.eq fix, decide_eq_true rfl]
  show laws_eqEventS.l0 dn iterL xs xs 0 = _
  refine all_loop (l0 := fun i => laws_eqEventS.l0 dn iterL xs xs i) (n := xs.length) ?_ (fun i hi => ?_)
  · show laws_eqEventS.l0 dn iterL xs xs _ = _
    rw [laws_eqEventS.l0_eq fix, not_lt_nat (Nat.le_refl _)]; rfl
  · obtain ⟨c0, c1, c2, c3, c4, c5, c6, c7, c8, c9, c10, c11, c12, c13, hrow, hc12, hc13⟩ := row57 (h.2 _ (getD_mem hi (z := [])))
    have hcn := cntR_mem (getD_mem hi (z := []))
    rw [hrow] at hcn
    simp only [cntR, cntU] at hcn
    show laws_eqEventS.l0 dn iterL xs xs _ = laws_eqEventS.l0 dn iterL xs xs _
    rw [laws_eqEventS.l0_eq fix, lt_nat hi, inRange_nat, decide_eq_true hi, Int.toNat_natCast, hrow, wrap_nat (by omega)]
    simp (disch := first | assumption | omega) [-List.getD_eq_getElem?_getD, Option.bind_some, Ret.u_mk, Ret.m_mk, List.getD_cons_zero, List.getD_cons_succ, U.toInt_int, U.toBool_bool, U.toStr_str, U.toLst_lst, cond_true, cond_false, eq_IntS, eq_Request, eq_CondS, eq_Cond, eq_Rule, eq_RuleS, eq_Event]
theorem eq_Emergency (c0 : Int) (c1 : Int) (c2 : Int) (c3 : Int) (c4 : List (List U)) (c5 : Bool) (hc4 : WR tabs.ct 3 c4) (bc4 : cntRs c4 ≤ 1099511627776) : laws_eqEmergency.c dn c0 c1 c2 c3 c4 c5 c0 c1 c2 c3 c4 c5 = some ⟨[[.bool true]], []⟩ := by
  rw [laws_eqEmergency.eq fix]
  simp (disch := first | assumption | omega) [-List.getD_eq_getElem?_getD, Option.bind_some, Ret.u_mk, Ret.m_mk, List.getD_cons_zero, List.getD_cons_succ, U.toInt_int, U.toBool_bool, U.toStr_str, U.toLst_lst, cond_true, cond_false, eq_IntS, eq_Request, eq_CondS, eq_Cond, eq_Rule, eq_RuleS, eq_Event, eq_EventS]
theorem eq_EmergencyS (xs : List (List U)) (h : WR tabs.ct 67 xs) (hc : cntRs xs ≤ 1099511627776) : laws_eqEmergencyS.c dn xs xs = some ⟨[[.bool true]], []⟩ := by
  have hl := cntRs_length xs
  rw [laws_eqEmergencyS.eq fix, decide_eq_true rfl]
  show laws_eqEmergencyS.l0 dn iterL xs xs 0 = _
  refine all_loop (l0 := fun i => laws_eqEmergencyS.l0 dn iterL xs xs i) (n := xs.length) ?_ (fun i hi => ?_)
  · show laws_eqEmergencyS.l0 dn iterL xs xs _ = _
    rw [laws_eqEmergencyS.l0_eq fix, not_lt_nat (Nat.le_refl _)]; rfl
  · obtain ⟨c0, c1, c2, c3, c4, c5, hrow, hc4⟩ := row67 (h.2 _ (getD_mem hi (z := [])))
    have hcn := cntR_mem (getD_mem hi (z := []))
    rw [hrow] at hcn
    simp only [cntR, cntU] at hcn
    show laws_eqEmergencyS.l0 dn iterL xs xs _ = laws_eqEmergencyS.l0 dn iterL xs xs _
    rw [laws_eqEmergencyS.l0_eq fix, lt_nat hi, inRange_nat, decide_eq_true hi, Int.toNat_natCast, hrow, wrap_nat (by omega)]
    simp (disch := first | assumption | omega) [-List.getD_eq_getElem?_getD, Option.bind_some, Ret.u_mk, Ret.m_mk, List.getD_cons_zero, List.getD_cons_succ, U.toInt_int, U.toBool_bool, U.toStr_str, U.toLst_lst, cond_true, cond_false, eq_IntS, eq_Request, eq_CondS, eq_Cond, eq_Rule, eq_RuleS, eq_Event, eq_EventS, eq_Emergency]
theorem eq_Plan (c0 : List (List U)) (c1 : List (List U)) (c2 : Int) (hc0 : WR tabs.ct 3 c0) (bc0 : cntRs c0 ≤ 1099511627776) (hc1 : WR tabs.ct 3 c1) (bc1 : cntRs c1 ≤ 1099511627776) : laws_eqPlan.c dn c0 c1 c2 c0 c1 c2 = some ⟨[[.bool true]], []⟩ := by
  rw [laws_eqPlan.eq fix]
  simp (disch := first | assumption | omega) [-List.getD_eq_getElem?_getD, Option.bind_some, Ret.u_mk, Ret.m_mk, List.getD_cons_zero, List.getD_cons_succ, U.toInt_int, U.toBool_bool, U.toStr_str, U.toLst_lst, cond_true, cond_false, eq_IntS, eq_Request, eq_CondS, eq_Cond, eq_Rule, eq_RuleS, eq_Event, eq_EventS, eq_Emergency, eq_EmergencyS]
theorem sz_IntS (xs : List (List U)) (h : WR tabs.ct 3 xs) {l : Int} (p0 : 0 ≤ l) (q0 : l ≤ 1048576) : laws_szIntS.c dn xs l = some ⟨[[.int (szR (cntRs xs) l)]], []⟩ := by
  rw [laws_szIntS.eq fix, cntRs_sum]
  refine sz_head (l0 := fun v => some ⟨[[.int v]], []⟩) h.1 p0 q0 fun hl => ?_
  rw [sum_zero fun x hx => ?_]
  · exact sz_end (by omega)
  · obtain ⟨c0, rfl⟩ := row3 (h.2 x hx)
    simp [cntR, cntU]
theorem sz_CondS_n : ∀ (n : Nat) (xs : List (List U)), cntRs xs ≤ n → WR tabs.ct 88 xs → ∀ {l : Int}, 0 ≤ l → l ≤ 1048576 → laws_szCondS.c dn xs l = some ⟨[[.int (szR (cntRs xs) l)]], []⟩ := by
  intro n
  induction n with
  | zero =>
    intro xs hn h l p0 q0
    have hl := cntRs_length xs
    obtain rfl : xs = [] := List.eq_nil_of_length_eq_zero (by omega)
    rw [laws_szCondS.eq fix]
    refine (sz_head (l0 := fun l => laws_szCondS.l0 dn iterL [] l 0) (n := 0) (m := 0) (by omega) p0 q0 fun _ => ?_).trans (by simp [cntRs])
    show laws_szCondS.l0 dn iterL [] _ 0 = _
    rw [laws_szCondS.l0_eq fix]
    exact sz_end (by omega)
  | succ n ih =>
    intro xs hn h l p0 q0
    rw [laws_szCondS.eq fix, cntRs_sum]
    refine sz_head (l0 := fun v => laws_szCondS.l0 dn iterL xs v 0) h.1 p0 q0 fun hl => ?_
    refine sz_loop (l0 := fun l i => laws_szCondS.l0 dn iterL xs l i) (c := cntR) (fun l => ?_) (fun i hi l p0 q0 => ?_) (by omega) (by omega)
    · show laws_szCondS.l0 dn iterL xs l _ = _
      rw [laws_szCondS.l0_eq fix, not_lt_nat (Nat.le_refl _)]; rfl
    · obtain ⟨c0, c1, c2, c3, hrow, hc3⟩ := row88 (h.2 _ (getD_mem hi (z := [])))
      have hcn := cntR_mem (getD_mem hi (z := []))
      rw [hrow] at hcn
      simp only [cntR, cntU] at hcn
      show laws_szCondS.l0 dn iterL xs l _ = if _ then laws_szCondS.l0 dn iterL xs _ _ else _
      have hlen := h.1
      rw [laws_szCondS.l0_eq fix, lt_nat hi, inRange_nat, decide_eq_true hi, Int.toNat_natCast, hrow, wrap_nat (by omega)]
      simp only [List.getD_cons_zero, List.getD_cons_succ, U.toInt_int, U.toBool_bool, U.toStr_str, U.toLst_lst, cond_true]
      have e1 : cntR [.int c0, .int c1, .int c2, .lst c3] = cntRs c3 + 0 := by simp only [cntR, cntU]; omega
      rw [e1]
      have hsz : laws_szCond.c dn c0 c1 c2 c3 l = some ⟨[[.int (szR (cntRs c3 + 0) l)]], []⟩ := by rw [laws_szCond.eq fix]; exact sz_seq p0 q0 (ih c3 (by omega) hc3 p0 q0) fun l1 p1 q1 => sz_end p1
      exact sz_step (G := fun v => laws_szCondS.l0 dn iterL xs v ((i + 1 : Nat) : Int)) p0 (hsz)
theorem sz_CondS (xs : List (List U)) (h : WR tabs.ct 88 xs) {l : Int} (p0 : 0 ≤ l) (q0 : l ≤ 1048576) : laws_szCondS.c dn xs l = some ⟨[[.int (szR (cntRs xs) l)]], []⟩ := sz_CondS_n _ xs (Nat.le_refl _) h p0 q0
theorem sz_Cond (c0 : Int) (c1 : Int) (c2 : Int) (c3 : List (List U)) (hc3 : WR tabs.ct 88 c3) {l : Int} (p0 : 0 ≤ l) (q0 : l ≤ 1048576) : laws_szCond.c dn c0 c1 c2 c3 l = some ⟨[[.int (szR (cntRs c3 + 0) l)]], []⟩ := by
  rw [laws_szCond.eq fix]
  exact sz_seq p0 q0 (sz_CondS c3 hc3 p0 q0) fun l1 p1 q1 => sz_end p1
theorem sz_Rule (c0 : Int) (c1 : Int) (c2 : Int) (c3 : Int) (c4 : Int) (c5 : Int) (c6 : List (List U)) (hc6 : WR tabs.ct 88 c6) {l : Int} (p0 : 0 ≤ l) (q0 : l ≤ 1048576) : laws_szRule.c dn c0 c1 c2 c3 c4 c5 c6 l = some ⟨[[.int (szR ((cntRs c6 + 0) + 0) l)]], []⟩ := by
  rw [laws_szRule.eq fix]
  exact sz_seq p0 q0 (sz_Cond c3 c4 c5 c6 hc6 p0 q0) fun l1 p1 q1 => sz_end p1
theorem sz_RuleS (xs : List (List U)) (h : WR tabs.ct 90 xs) {l : Int} (p0 : 0 ≤ l) (q0 : l ≤ 1048576) : laws_szRuleS.c dn xs l = some ⟨[[.int (szR (cntRs xs) l)]], []⟩ := by
  rw [laws_szRuleS.eq fix, cntRs_sum]
  refine sz_head (l0 := fun v => laws_szRuleS.l0 dn iterL xs v 0) h.1 p0 q0 fun hl => ?_
  refine sz_loop (l0 := fun l i => laws_szRuleS.l0 dn iterL xs l i) (c := cntR) (fun l => ?_) (fun i hi l p0 q0 => ?_) (by omega) (by omega)
  · show laws_szRuleS.l0 dn iterL xs l _ = _
    rw [laws_szRuleS.l0_eq fix, not_lt_nat (Nat.le_refl _)]; rfl
  · obtain ⟨c0, c1, c2, c3, c4, c5, c6, hrow, hc6⟩ := row90 (h.2 _ (getD_mem hi (z := [])))
    have hcn := cntR_mem (getD_mem hi (z := []))
    rw [hrow] at hcn
    simp only [cntR, cntU] at hcn
    show laws_szRuleS.l0 dn iterL xs l _ = if _ then laws_szRuleS.l0 dn iterL xs _ _ else _
    have hlen := h.1
    rw [laws_szRuleS.l0_eq fix, lt_nat hi, inRange_nat, decide_eq_true hi, Int.toNat_natCast, hrow, wrap_nat (by omega)]
    simp only [List.getD_cons_zero, List.getD_cons_succ, U.toInt_int, U.toBool_bool, U.toStr_str, U.toLst_lst, cond_true]
    have e1 : cntR [.int c0, .int c1, .int c2, .int c3, .int c4, .int c5, .lst c6] = (cntRs c6 + 0) + 0 := by simp only [cntR, cntU]; omega
    rw [e1]
    exact sz_step (G := fun v => laws_szRuleS.l0 dn iterL xs v ((i + 1 : Nat) : Int)) p0 (sz_Rule c0 c1 c2 c3 c4 c5 c6 hc6 p0 q0)
theorem sz_Event (c0 : Int) (c1 : Int) (c2 : Int) (c3 : Int) (c4 : Int) (c5 : Int) (c6 : Int) (c7 : Int) (c8 : Int) (c9 : Int) (c10 : Int) (c11 : Int) (c12 : List (List U)) (c13 : List (List U)) (hc12 : WR tabs.ct 90 c12) (hc13 : WR tabs.ct 3 c13) {l : Int} (p0 : 0 ≤ l) (q0 : l ≤ 1048576) : laws_szEvent.c dn c0 c1 c2 c3 c4 c5 c6 c7 c8 c9 c10 c11 c12 c13 l = some ⟨[[.int (szR (cntRs c12 + (cntRs c13 + 0)) l)]], []⟩ := by
  rw [laws_szEvent.eq fix]
  exact sz_seq p0 q0 (sz_RuleS c12 hc12 p0 q0) fun l1 p1 q1 => sz_seq p1 q1 (sz_IntS c13 hc13 p1 q1) fun l2 p2 q2 => sz_end p2
theorem sz_EventS (xs : List (List U)) (h : WR tabs.ct 53 xs) {l : Int} (p0 : 0 ≤ l) (q0 : l ≤ 1048576) : laws_szEventS.c dn xs l = some ⟨[[.int (szR (cntRs xs) l)]], []⟩ := by
  rw [laws_szEventS.eq fix, cntRs_sum]
  refine sz_head (l0 := fun v => laws_szEventS.l0 dn iterL xs v 0) h.1 p0 q0 fun hl => ?_
  refine sz_loop (l0 := fun l i => laws_szEventS.l0 dn iterL xs l i) (c := cntR) (fun l => ?_) (fun i hi l p0 q0 => ?_) (by omega) (by omega)
  · show laws_szEventS.l0 dn iterL xs l _ = _
    rw [laws_szEventS.l0_eq fix, not_lt_nat (Nat.le_refl _)]; rfl
  · obtain ⟨c0, c1, c2, c3, c4, c5, c6, c7, c8, c9, c10, c11, c12, c13, hrow, hc12, hc13⟩ := row53 (h.2 _ (getD_mem hi (z := [])))
    have hcn := cntR_mem (getD_mem hi (z := []))
    rw [hrow] at hcn
    simp only [cntR, cntU] at hcn
    show laws_szEventS.l0 dn iterL xs l _ = if _ then laws_szEventS.l0 dn iterL xs _ _ else _
    have hlen := h.1
    rw [laws_szEventS.l0_eq fix, lt_nat hi, inRange_nat, decide_eq_true hi, Int.toNat_natCast, hrow, wrap_nat (by omega)]
    simp only [List.getD_cons_zero, List.getD_cons_succ, U.toInt_int, U.toBool_bool, U.toStr_str, U.toLst_lst, cond_true]
    have e1 : cntR [.int c0, .int c1, .int c2, .int c3, .int c4, .int c5, .int c6, .int c7, .int c8, .int c9, .int c10, .int c11, .lst c12, .lst c13] = cntRs c12 + (cntRs c13 + 0) := by simp only [cntR, cntU]; omega
    rw [e1]
    exact sz_step (G := fun v => laws_szEventS.l0 dn iterL xs v ((i + 1 : Nat) : Int)) p0 (sz_Event c0 c1 c2 c3 c4 c5 c6 c7 c8 c9 c10 c11 c12 c13 hc12 hc13 p0 q0)
theorem sz_Plan (c0 : List (List U)) (c1 : List (List U)) (c2 : Int) (hc0 : WR tabs.ct 3 c0) (hc1 : WR tabs.ct 3 c1) {l : Int} (p0 : 0 ≤ l) (q0 : l ≤ 1048576) : laws_szPlan.c dn c0 c1 c2 l = some ⟨[[.int (szR (cntRs c0 + (cntRs c1 + 0)) l)]], []⟩ := by
  rw [laws_szPlan.eq fix]
  exact sz_seq p0 q0 (sz_IntS c0 hc0 p0 q0) fun l1 p1 q1 => sz_seq p1 q1 (sz_IntS c1 hc1 p1 q1) fun l2 p2 q2 => sz_end p2
theorem sz_Emergency (c0 : Int) (c1 : Int) (c2 : Int) (c3 : Int) (c4 : List (List U)) (c5 : Bool) (hc4 : WR tabs.ct 3 c4) {l : Int} (p0 : 0 ≤ l) (q0 : l ≤ 1048576) : laws_szEmergency.c dn c0 c1 c2 c3 c4 c5 l = some ⟨[[.int (szR (cntRs c4 + 0) l)]], []⟩ := by
  rw [laws_szEmergency.eq fix]
  exact sz_seq p0 q0 (sz_IntS c4 hc4 p0 q0) fun l1 p1 q1 => sz_end p1
theorem sz_EmergencyS (xs : List (List U)) (h : WR tabs.ct 63 xs) {l : Int} (p0 : 0 ≤ l) (q0 : l ≤ 1048576) : laws_szEmergencyS.c dn xs l = some ⟨[[.int (szR (cntRs xs) l)]], []⟩ := by
  rw [laws_szEmergencyS.eq fix, cntRs_sum]
  refine sz_head (l0 := fun v => laws_szEmergencyS.l0 dn iterL xs v 0) h.1 p0 q0 fun hl => ?_
  refine sz_loop (l0 := fun l i => laws_szEmergencyS.l0 dn iterL xs l i) (c := cntR) (fun l => ?_) (fun i hi l p0 q0 => ?_) (by omega) (by omega)
  · show laws_szEmergencyS.l0 dn iterL xs l _ = _
    rw [laws_szEmergencyS.l0_eq fix, not_lt_nat (Nat.le_refl _)]; rfl
  · obtain ⟨c0, c1, c2, c3, c4, c5, hrow, hc4⟩ := row63 (h.2 _ (getD_mem hi (z := [])))
    have hcn := cntR_mem (getD_mem hi (z := []))
    rw [hrow] at hcn
    simp only [cntR, cntU] at hcn
    show laws_szEmergencyS.l0 dn iterL xs l _ = if _ then laws_szEmergencyS.l0 dn iterL xs _ _ else _
    have hlen := h.1
    rw [laws_szEmergencyS.l0_eq fix, lt_nat hi, inRange_nat, decide_eq_true hi, Int.toNat_natCast, hrow, wrap_nat (by omega)]
    simp only [List.getD_cons_zero, List.getD_cons_succ, U.toInt_int, U.toBool_bool, U.toStr_str, U.toLst_lst, cond_true]
    have e1 : cntR [.int c0, .int c1, .int c2, .int c3, .lst c4, .bool c5] = cntRs c4 + 0 := by simp only [cntR, cntU]; omega
    rw [e1]
    exact sz_step (G := fun v => laws_szEmergencyS.l0 dn iterL xs v ((i + 1 : Nat) : Int)) p0 (sz_Emergency c0 c1 c2 c3 c4 c5 hc4 p0 q0)
theorem mark_IntS (xs : List (List U)) (h : WR tabs.ct 3 xs) {k : Int} (p0 : 0 ≤ k) (q0 : k + (nRs xs : Int) ≤ 4611686018427387904) : laws_markIntS.c dn k xs = some ⟨[[.int (k + (nRs xs : Int))]], [mkRs tx0 xs k]⟩ := by
  rw [laws_markIntS.eq fix]
  refine mark_loop2 tx0 (l0 := fun k i s => laws_markIntS.l0 dn iterL k i s) (fun k s hs => ?_) (fun i hi k s hs hrow h0 hk => ?_) p0 q0
  · show laws_markIntS.l0 dn iterL _ _ s = _
    rw [laws_markIntS.l0_eq fix, ← hs, not_lt_nat (Nat.le_refl _)]; rfl
  · obtain ⟨c0, hr⟩ := row3 (h.2 _ (getD_mem hi (z := [])))
    have hn := nR_mem (getD_mem hi (z := []))
    have hi' : i < s.length := by omega
    have hlen := h.1
    rw [hr] at hrow hk hn ⊢
    have e1 : k + (nR [.int c0] : Int) = k + 1 := by simp only [nR, nU]; omega
    rw [e1] at hk ⊢
    have e2 : i < 9223372036854775807 := by omega
    show laws_markIntS.l0 dn iterL _ _ s = laws_markIntS.l0 dn iterL _ _ _
    rw [laws_markIntS.l0_eq fix, lt_nat hi', wrap_nat (by omega)]
    simp (disch := first | assumption | omega) only [Option.bind_some, Ret.u_mk, Ret.m_mk, List.getD_cons_zero, List.getD_cons_succ, U.toInt_int, U.toBool_bool, U.toStr_str, U.toLst_lst, cond_true, cond_false, setEl_length, List.length_set, Int.toNat_natCast, inRange_nat, decide_eq_true hi', setEl_eq s, setEl_set hi', setP_cons, setP_nil, getD_set hi', set_set_same, hrow, splice_nil, splice_cons, List.set_cons_zero, List.set_cons_succ, wrap_id, mkR_nil, mkR_int, mkR_bool, mkR_lst]
theorem mark_Plan (c0 : List (List U)) (c1 : List (List U)) (c2 : Int) (hc0 : WR tabs.ct 3 c0) (hc1 : WR tabs.ct 3 c1) {k : Int} (p0 : 0 ≤ k) (q0 : k + (nRs c0 : Int) + (nRs c1 : Int) ≤ 4611686018427387904) : laws_markPlan.c dn c2 k c0 c1 = some ⟨[[.int (k + (nRs c0 : Int) + (nRs c1 : Int))]], [mkRs tx0 c0 (k), mkRs tx0 c1 (k + (nRs c0 : Int))]⟩ := by
  rw [laws_markPlan.eq fix]
  simp (disch := first | assumption | omega) only [Option.bind_some, Ret.u_mk, Ret.m_mk, List.getD_cons_zero, List.getD_cons_succ, U.toInt_int, U.toBool_bool, U.toStr_str, U.toLst_lst, cond_true, cond_false, mark_IntS]
theorem mark_EmergencyS (xs : List (List U)) (h : WR tabs.ct 67 xs) {k : Int} (p0 : 0 ≤ k) (q0 : k + (nRs xs : Int) ≤ 4611686018427387904) : laws_markEmergencyS.c dn k xs = some ⟨[[.int (k + (nRs xs : Int))]], [mkRs tx0 xs k]⟩ := by
  rw [laws_markEmergencyS.eq fix]
  refine mark_loop2 tx0 (l0 := fun k i s => laws_markEmergencyS.l0 dn iterL k i s) (fun k s hs => ?_) (fun i hi k s hs hrow h0 hk => ?_) p0 q0
  · show laws_markEmergencyS.l0 dn iterL _ _ s = _
    rw [laws_markEmergencyS.l0_eq fix, ← hs, not_lt_nat (Nat.le_refl _)]; rfl
  · obtain ⟨c0, c1, c2, c3, c4, c5, hr, hc4⟩ := row67 (h.2 _ (getD_mem hi (z := [])))
    have hn := nR_mem (getD_mem hi (z := []))
    have hi' : i < s.length := by omega
    have hlen := h.1
    rw [hr] at hrow hk hn ⊢
    have e1 : k + (nR [.int c0, .int c1, .int c2, .int c3, .lst c4, .bool c5] : Int) = k + 1 + 1 + 1 + 1 + (nRs c4 : Int) + 1 := by simp only [nR, nU]; omega
    rw [e1] at hk ⊢
    have e2 : i < 9223372036854775807 := by omega
    show laws_markEmergencyS.l0 dn iterL _ _ s = laws_markEmergencyS.l0 dn iterL _ _ _
    rw [laws_markEmergencyS.l0_eq fix, lt_nat hi', wrap_nat (by omega)]
    simp (disch := first | assumption | omega) only [Option.bind_some, Ret.u_mk, Ret.m_mk, List.getD_cons_zero, List.getD_cons_succ, U.toInt_int, U.toBool_bool, U.toStr_str, U.toLst_lst, cond_true, cond_false, setEl_length, List.length_set, Int.toNat_natCast, inRange_nat, decide_eq_true hi', setEl_eq s, setEl_set hi', setP_cons, setP_nil, getD_set hi', set_set_same, hrow, splice_nil, splice_cons, List.set_cons_zero, List.set_cons_succ, wrap_id, mkR_nil, mkR_int, mkR_bool, mkR_lst, mark_IntS, mark_Plan]
theorem held_IntS (xs : List (List U)) (h : WR tabs.ct 3 xs) {m : Int} (p0 : 0 ≤ m) (q0 : m + (nRs xs : Int) ≤ 4611686018427387904) : laws_heldIntS.c dn (mkRs tx0 xs m) m = some ⟨[[.int (m + (nRs xs : Int))]], []⟩ := by
  rw [laws_heldIntS.eq fix]
  have hm := mkRs_length tx0 xs m
  have hlen := h.1
  refine held_loop2 tx0 (l0 := fun k i => laws_heldIntS.l0 dn iterL (mkRs tx0 xs m) k i) p0 q0 (fun k => ?_) (fun i hi k hrow h0 hk => ?_)
  · show laws_heldIntS.l0 dn iterL _ _ _ = _
    rw [laws_heldIntS.l0_eq fix, hm, not_lt_nat (Nat.le_refl _)]; rfl
  · obtain ⟨c0, hr⟩ := row3 (h.2 _ (getD_mem hi (z := [])))
    have hi' : i < (mkRs tx0 xs m).length := by omega
    rw [hr] at hrow hk ⊢
    simp only [mkR_nil, mkR_int, mkR_bool, mkR_lst] at hrow
    have e1 : k + (nR [.int c0] : Int) = k + 1 := by simp only [nR, nU]; omega
    rw [e1] at hk ⊢
    show laws_heldIntS.l0 dn iterL _ _ _ = laws_heldIntS.l0 dn iterL _ _ _
    rw [laws_heldIntS.l0_eq fix, lt_nat hi', wrap_nat (by omega)]
    simp (disch := first | assumption | omega) [-List.getD_eq_getElem?_getD, Option.bind_some, Ret.u_mk, Ret.m_mk, List.getD_cons_zero, List.getD_cons_succ, U.toInt_int, U.toBool_bool, U.toStr_str, U.toLst_lst, cond_true, cond_false, Int.toNat_natCast, inRange_nat, decide_eq_true hi', hrow, wrap_id, dec_neg]
theorem held_EmergencyS (xs : List (List U)) (h : WR tabs.ct 67 xs) {m : Int} (p0 : 0 ≤ m) (q0 : m + (nRs xs : Int) ≤ 4611686018427387904) : laws_heldEmergencyS.c dn (mkRs tx0 xs m) m = some ⟨[[.int (m + (nRs xs : Int))]], []⟩ := by
  rw [laws_heldEmergencyS.eq fix]
  have hm := mkRs_length tx0 xs m
  have hlen := h.1
  refine held_loop2 tx0 (l0 := fun k i => laws_heldEmergencyS.l0 dn iterL (mkRs tx0 xs m) k i) p0 q0 (fun k => ?_) (fun i hi k hrow h0 hk => ?_)
  · show laws_heldEmergencyS.l0 dn iterL _ _ _ = _
    rw [laws_heldEmergencyS.l0_eq fix, hm, not_lt_nat (Nat.le_refl _)]; rfl
  · obtain ⟨c0, c1, c2, c3, c4, c5, hr, hc4⟩ := row67 (h.2 _ (getD_mem hi (z := [])))
    have hi' : i < (mkRs tx0 xs m).length := by omega
    rw [hr] at hrow hk ⊢
    simp only [mkR_nil, mkR_int, mkR_bool, mkR_lst] at hrow
    have e1 : k + (nR [.int c0, .int c1, .int c2, .int c3, .lst c4, .bool c5] : Int) = k + 1 + 1 + 1 + 1 + (nRs c4 : Int) + 1 := by simp only [nR, nU]; omega
    rw [e1] at hk ⊢
    show laws_heldEmergencyS.l0 dn iterL _ _ _ = laws_heldEmergencyS.l0 dn iterL _ _ _
    rw [laws_heldEmergencyS.l0_eq fix, lt_nat hi', wrap_nat (by omega)]
    simp (disch := first | assumption | omega) [-List.getD_eq_getElem?_getD, Option.bind_some, Ret.u_mk, Ret.m_mk, List.getD_cons_zero, List.getD_cons_succ, U.toInt_int, U.toBool_bool, U.toStr_str, U.toLst_lst, cond_true, cond_false, Int.toNat_natCast, inRange_nat, decide_eq_true hi', hrow, wrap_id, dec_neg, held_IntS]
def prs : List (TypeId × TypeId) := [(88, 93), (90, 95), (53, 57), (63, 67)]
theorem prs_ok : isoB tabs prs = true := by kernel_rfl
end Go.Proofs.Ytalgdejblgkjjaa.Eng
