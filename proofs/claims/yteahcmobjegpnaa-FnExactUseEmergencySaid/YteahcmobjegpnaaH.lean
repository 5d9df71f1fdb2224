/- What the laws' helpers do, written by a program of ours (wip/bin/har2.py) for this claim. -/
import Derived.Test.YteahcmobjegpnaaPM
import Derived.Test.YteahcmobjegpnaaBase
import Derived.Test.YteahcmobjegpnaaFAll
namespace Go.Proofs.Yteahcmobjegpnaa.Eng
open Go.RowKit
set_option linter.unusedVariables false
set_option linter.unusedSimpArgs false
set_option maxRecDepth 100000
set_option linter.unusedSectionVars false
variable [Sm]
theorem row3 {x : List U} (h : WTs tabs.ct (tabs.ct 3) x) : ∃ (c0 : Int), x = [.int c0] := by
  have h : WTs tabs.ct [.int .i64] x := h
  obtain ⟨u0, x0, rfl, k0, h⟩ := h.cons
  obtain rfl := h.nil
  obtain ⟨c0, rfl, w0⟩ := k0.int_inv
  exact ⟨c0, rfl⟩
theorem row24 {x : List U} (h : WTs tabs.ct (tabs.ct 24) x) : ∃ (c0 : List (List U)) (c1 : List (List U)) (c2 : Int), x = [.lst c0, .lst c1, .int c2] ∧ WR tabs.ct 3 c0 ∧ WR tabs.ct 3 c1 := by
  have h : WTs tabs.ct [.slc 3, .slc 3, .int .i64] x := h
  obtain ⟨u0, x0, rfl, k0, h⟩ := h.cons
  obtain ⟨u1, x1, rfl, k1, h⟩ := h.cons
  obtain ⟨u2, x2, rfl, k2, h⟩ := h.cons
  obtain rfl := h.nil
  obtain ⟨c0, rfl, w0⟩ := k0.slc_inv
  obtain ⟨c1, rfl, w1⟩ := k1.slc_inv
  obtain ⟨c2, rfl, w2⟩ := k2.int_inv
  exact ⟨c0, c1, c2, rfl, w0, w1⟩
theorem row42 {x : List U} (h : WTs tabs.ct (tabs.ct 42) x) : ∃ (c0 : Int) (c1 : Int) (c2 : Int) (c3 : Int) (c4 : List (List U)) (c5 : Bool), x = [.int c0, .int c1, .int c2, .int c3, .lst c4, .bool c5] ∧ WR tabs.ct 3 c4 := by
  have h : WTs tabs.ct [.int .i64, .int .i64, .int .i64, .int .i64, .slc 3, .bool] x := h
  obtain ⟨u0, x0, rfl, k0, h⟩ := h.cons
  obtain ⟨u1, x1, rfl, k1, h⟩ := h.cons
  obtain ⟨u2, x2, rfl, k2, h⟩ := h.cons
  obtain ⟨u3, x3, rfl, k3, h⟩ := h.cons
  obtain ⟨u4, x4, rfl, k4, h⟩ := h.cons
  obtain ⟨u5, x5, rfl, k5, h⟩ := h.cons
  obtain rfl := h.nil
  obtain ⟨c0, rfl, w0⟩ := k0.int_inv
  obtain ⟨c1, rfl, w1⟩ := k1.int_inv
  obtain ⟨c2, rfl, w2⟩ := k2.int_inv
  obtain ⟨c3, rfl, w3⟩ := k3.int_inv
  obtain ⟨c4, rfl, w4⟩ := k4.slc_inv
  obtain ⟨c5, rfl⟩ := k5.bool_inv
  exact ⟨c0, c1, c2, c3, c4, c5, rfl, w4⟩
theorem row46 {x : List U} (h : WTs tabs.ct (tabs.ct 46) x) : ∃ (c0 : Int) (c1 : Int) (c2 : Int) (c3 : Int) (c4 : List (List U)) (c5 : Bool), x = [.int c0, .int c1, .int c2, .int c3, .lst c4, .bool c5] ∧ WR tabs.ct 3 c4 := by
  have h : WTs tabs.ct [.int .i64, .int .i64, .int .i64, .int .i64, .slc 3, .bool] x := h
  obtain ⟨u0, x0, rfl, k0, h⟩ := h.cons
  obtain ⟨u1, x1, rfl, k1, h⟩ := h.cons
  obtain ⟨u2, x2, rfl, k2, h⟩ := h.cons
  obtain ⟨u3, x3, rfl, k3, h⟩ := h.cons
  obtain ⟨u4, x4, rfl, k4, h⟩ := h.cons
  obtain ⟨u5, x5, rfl, k5, h⟩ := h.cons
  obtain rfl := h.nil
  obtain ⟨c0, rfl, w0⟩ := k0.int_inv
  obtain ⟨c1, rfl, w1⟩ := k1.int_inv
  obtain ⟨c2, rfl, w2⟩ := k2.int_inv
  obtain ⟨c3, rfl, w3⟩ := k3.int_inv
  obtain ⟨c4, rfl, w4⟩ := k4.slc_inv
  obtain ⟨c5, rfl⟩ := k5.bool_inv
  exact ⟨c0, c1, c2, c3, c4, c5, rfl, w4⟩
theorem to_IntS (xs : List (List U)) (h : WR tabs.ct 3 xs) (hc : cntRs xs ≤ 1048576) : laws_toIntS.c xs = some ⟨[[.lst xs]], []⟩ := by
  have hl := cntRs_length xs
  rw [laws_toIntS.eq]; (try dsimp only [gr, gi, gl, gb, gt, w64, ln, grd, Ret.i, Ret.l, Ret.b, Ret.t]); rw [Int.toNat_natCast, room_true (by omega) (by omega), decide_eq_true (by omega)]
  show laws_toIntS.l0 xs 0 (List.replicate xs.length _) = _
  refine (fill_loop (l0 := fun i s => laws_toIntS.l0 xs i s) (row := fun i => xs.getD i []) (R := fun s => some ⟨[[.lst s]], []⟩) (fun s hs => ?_) (fun i hi s hs hz => ?_)).trans (by rw [range_getD])
  · show laws_toIntS.l0 xs _ s = _
    rw [laws_toIntS.l0_eq]; (try dsimp only [gr, gi, gl, gb, gt, w64, ln, grd, Ret.i, Ret.l, Ret.b, Ret.t]); rw [not_lt_nat (Nat.le_refl _)]; rfl
  · obtain ⟨c0, hrow⟩ := row3 (h.2 _ (getD_mem hi (z := [])))
    have hcn := cntR_mem (getD_mem hi (z := []))
    rw [hrow] at hcn
    simp only [cntR, cntU] at hcn
    show laws_toIntS.l0 xs _ s = laws_toIntS.l0 xs _ _
    rw [laws_toIntS.l0_eq]; (try dsimp only [gr, gi, gl, gb, gt, w64, ln, grd, Ret.i, Ret.l, Ret.b, Ret.t]); rw [lt_nat hi, inRange_nat, inRange_nat, decide_eq_true hi, decide_eq_true (by omega : i < s.length), Int.toNat_natCast, hrow, wrap_nat (by omega)]
    simp (disch := first | assumption | omega) only [Option.bind_some, Ret.u_mk, Ret.m_mk, List.getD_cons_zero, List.getD_cons_succ, U.toInt_int, U.toBool_bool, U.toStr_str, U.toLst_lst, cond_true, cond_false, setEl_eq, hz, splice_nil, splice_cons, List.set_cons_zero, List.set_cons_succ, Option.bind_some]
theorem to_Plan (c0 : List (List U)) (c1 : List (List U)) (c2 : Int) (hc0 : WR tabs.ct 3 c0) (bc0 : cntRs c0 ≤ 1048576) (hc1 : WR tabs.ct 3 c1) (bc1 : cntRs c1 ≤ 1048576) : laws_toPlan.c c0 c1 c2 = some ⟨[[.lst c0, .lst c1, .int c2]], []⟩ := by
  rw [laws_toPlan.eq]; (try dsimp only [gr, gi, gl, gb, gt, w64, ln, grd, Ret.i, Ret.l, Ret.b, Ret.t])
  try simp (disch := first | assumption | omega) only [Option.bind_some, Ret.u_mk, Ret.m_mk, List.getD_cons_zero, List.getD_cons_succ, U.toInt_int, U.toBool_bool, U.toStr_str, U.toLst_lst, cond_true, cond_false, to_IntS]
theorem to_Emergency (c0 : Int) (c1 : Int) (c2 : Int) (c3 : Int) (c4 : List (List U)) (c5 : Bool) (hc4 : WR tabs.ct 3 c4) (bc4 : cntRs c4 ≤ 1048576) : laws_toEmergency.c c0 c1 c2 c3 c4 c5 = some ⟨[[.int c0, .int c1, .int c2, .int c3, .lst c4, .bool c5]], []⟩ := by
  rw [laws_toEmergency.eq]; (try dsimp only [gr, gi, gl, gb, gt, w64, ln, grd, Ret.i, Ret.l, Ret.b, Ret.t])
  try simp (disch := first | assumption | omega) only [Option.bind_some, Ret.u_mk, Ret.m_mk, List.getD_cons_zero, List.getD_cons_succ, U.toInt_int, U.toBool_bool, U.toStr_str, U.toLst_lst, cond_true, cond_false, to_IntS]
theorem to_EmergencyS (xs : List (List U)) (h : WR tabs.ct 42 xs) (hc : cntRs xs ≤ 1048576) : laws_toEmergencyS.c xs = some ⟨[[.lst xs]], []⟩ := by
  have hl := cntRs_length xs
  rw [laws_toEmergencyS.eq]; (try dsimp only [gr, gi, gl, gb, gt, w64, ln, grd, Ret.i, Ret.l, Ret.b, Ret.t]); rw [Int.toNat_natCast, room_true (by omega) (by omega), decide_eq_true (by omega)]
  show laws_toEmergencyS.l0 xs 0 (List.replicate xs.length _) = _
  refine (fill_loop (l0 := fun i s => laws_toEmergencyS.l0 xs i s) (row := fun i => xs.getD i []) (R := fun s => some ⟨[[.lst s]], []⟩) (fun s hs => ?_) (fun i hi s hs hz => ?_)).trans (by rw [range_getD])
  · show laws_toEmergencyS.l0 xs _ s = _
    rw [laws_toEmergencyS.l0_eq]; (try dsimp only [gr, gi, gl, gb, gt, w64, ln, grd, Ret.i, Ret.l, Ret.b, Ret.t]); rw [not_lt_nat (Nat.le_refl _)]; rfl
  · obtain ⟨c0, c1, c2, c3, c4, c5, hrow, hc4⟩ := row42 (h.2 _ (getD_mem hi (z := [])))
    have hcn := cntR_mem (getD_mem hi (z := []))
    rw [hrow] at hcn
    simp only [cntR, cntU] at hcn
    show laws_toEmergencyS.l0 xs _ s = laws_toEmergencyS.l0 xs _ _
    rw [laws_toEmergencyS.l0_eq]; (try dsimp only [gr, gi, gl, gb, gt, w64, ln, grd, Ret.i, Ret.l, Ret.b, Ret.t]); rw [lt_nat hi, inRange_nat, inRange_nat, decide_eq_true hi, decide_eq_true (by omega : i < s.length), Int.toNat_natCast, hrow, wrap_nat (by omega)]
    simp (disch := first | assumption | omega) only [Option.bind_some, Ret.u_mk, Ret.m_mk, List.getD_cons_zero, List.getD_cons_succ, U.toInt_int, U.toBool_bool, U.toStr_str, U.toLst_lst, cond_true, cond_false, setEl_eq, hz, splice_nil, splice_cons, List.set_cons_zero, List.set_cons_succ, to_Emergency]
theorem eq_IntS (xs : List (List U)) (h : WR tabs.ct 3 xs) (hc : cntRs xs ≤ 1099511627776) : laws_eqIntS.c xs xs = some ⟨[[.bool true]], []⟩ := by
  have hl := cntRs_length xs
  rw [laws_eqIntS.eq]; (try dsimp only [gr, gi, gl, gb, gt, w64, ln, grd, Ret.i, Ret.l, Ret.b, Ret.t]); rw [decide_eq_true rfl]
  show laws_eqIntS.l0 xs xs 0 = _
  refine all_loop (l0 := fun i => laws_eqIntS.l0 xs xs i) (n := xs.length) ?_ (fun i hi => ?_)
  · show laws_eqIntS.l0 xs xs _ = _
    rw [laws_eqIntS.l0_eq]; (try dsimp only [gr, gi, gl, gb, gt, w64, ln, grd, Ret.i, Ret.l, Ret.b, Ret.t]); rw [not_lt_nat (Nat.le_refl _)]; rfl
  · obtain ⟨c0, hrow⟩ := row3 (h.2 _ (getD_mem hi (z := [])))
    have hcn := cntR_mem (getD_mem hi (z := []))
    rw [hrow] at hcn
    simp only [cntR, cntU] at hcn
    show laws_eqIntS.l0 xs xs _ = laws_eqIntS.l0 xs xs _
    rw [laws_eqIntS.l0_eq]; (try dsimp only [gr, gi, gl, gb, gt, w64, ln, grd, Ret.i, Ret.l, Ret.b, Ret.t]); rw [lt_nat hi, inRange_nat, decide_eq_true hi, wrap_nat (by omega)]
    simp only [Int.toNat_natCast, hrow]
    simp (disch := first | assumption | omega) [-List.getD_eq_getElem?_getD, Option.bind_some, Ret.u_mk, Ret.m_mk, List.getD_cons_zero, List.getD_cons_succ, U.toInt_int, U.toBool_bool, U.toStr_str, U.toLst_lst, cond_true, cond_false]
theorem eq_Emergency (c0 : Int) (c1 : Int) (c2 : Int) (c3 : Int) (c4 : List (List U)) (c5 : Bool) (hc4 : WR tabs.ct 3 c4) (bc4 : cntRs c4 ≤ 1099511627776) : laws_eqEmergency.c c0 c1 c2 c3 c4 c5 c0 c1 c2 c3 c4 c5 = some ⟨[[.bool true]], []⟩ := by
  rw [laws_eqEmergency.eq]; (try dsimp only [gr, gi, gl, gb, gt, w64, ln, grd, Ret.i, Ret.l, Ret.b, Ret.t])
  simp (disch := first | assumption | omega) [-List.getD_eq_getElem?_getD, Option.bind_some, Ret.u_mk, Ret.m_mk, List.getD_cons_zero, List.getD_cons_succ, U.toInt_int, U.toBool_bool, U.toStr_str, U.toLst_lst, cond_true, cond_false, eq_IntS]
theorem eq_EmergencyS (xs : List (List U)) (h : WR tabs.ct 46 xs) (hc : cntRs xs ≤ 1099511627776) : laws_eqEmergencyS.c xs xs = some ⟨[[.bool true]], []⟩ := by
  have hl := cntRs_length xs
  rw [laws_eqEmergencyS.eq]; (try dsimp only [gr, gi, gl, gb, gt, w64, ln, grd, Ret.i, Ret.l, Ret.b, Ret.t]); rw [decide_eq_true rfl]
  show laws_eqEmergencyS.l0 xs xs 0 = _
  refine all_loop (l0 := fun i => laws_eqEmergencyS.l0 xs xs i) (n := xs.length) ?_ (fun i hi => ?_)
  · show laws_eqEmergencyS.l0 xs xs _ = _
    rw [laws_eqEmergencyS.l0_eq]; (try dsimp only [gr, gi, gl, gb, gt, w64, ln, grd, Ret.i, Ret.l, Ret.b, Ret.t]); rw [not_lt_nat (Nat.le_refl _)]; rfl
  · obtain ⟨c0, c1, c2, c3, c4, c5, hrow, hc4⟩ := row46 (h.2 _ (getD_mem hi (z := [])))
    have hcn := cntR_mem (getD_mem hi (z := []))
    rw [hrow] at hcn
    simp only [cntR, cntU] at hcn
    show laws_eqEmergencyS.l0 xs xs _ = laws_eqEmergencyS.l0 xs xs _
    rw [laws_eqEmergencyS.l0_eq]; (try dsimp only [gr, gi, gl, gb, gt, w64, ln, grd, Ret.i, Ret.l, Ret.b, Ret.t]); rw [lt_nat hi, inRange_nat, decide_eq_true hi, wrap_nat (by omega)]
    simp only [Int.toNat_natCast, hrow]
    simp (disch := first | assumption | omega) [-List.getD_eq_getElem?_getD, Option.bind_some, Ret.u_mk, Ret.m_mk, List.getD_cons_zero, List.getD_cons_succ, U.toInt_int, U.toBool_bool, U.toStr_str, U.toLst_lst, cond_true, cond_false, eq_Emergency]
theorem eq_Plan (c0 : List (List U)) (c1 : List (List U)) (c2 : Int) (hc0 : WR tabs.ct 3 c0) (bc0 : cntRs c0 ≤ 1099511627776) (hc1 : WR tabs.ct 3 c1) (bc1 : cntRs c1 ≤ 1099511627776) : laws_eqPlan.c c0 c1 c2 c0 c1 c2 = some ⟨[[.bool true]], []⟩ := by
  rw [laws_eqPlan.eq]; (try dsimp only [gr, gi, gl, gb, gt, w64, ln, grd, Ret.i, Ret.l, Ret.b, Ret.t])
  simp (disch := first | assumption | omega) [-List.getD_eq_getElem?_getD, Option.bind_some, Ret.u_mk, Ret.m_mk, List.getD_cons_zero, List.getD_cons_succ, U.toInt_int, U.toBool_bool, U.toStr_str, U.toLst_lst, cond_true, cond_false, eq_IntS]
theorem sz_IntS (xs : List (List U)) (h : WR tabs.ct 3 xs) {l : Int} (p0 : 0 ≤ l) (q0 : l ≤ 1048576) : laws_szIntS.c xs l = some ⟨[[.int (szR (cntRs xs) l)]], []⟩ := by
  rw [laws_szIntS.eq]; (try dsimp only [gr, gi, gl, gb, gt, w64, ln, grd, Ret.i, Ret.l, Ret.b, Ret.t]); rw [cntRs_sum]
  refine sz_head (l0 := fun v => some ⟨[[.int v]], []⟩) h.1 p0 q0 fun hl => ?_
  rw [sum_zero fun x hx => ?_]
  · exact sz_end (by omega)
  · obtain ⟨c0, rfl⟩ := row3 (h.2 x hx)
    simp [cntR, cntU]
theorem sz_Plan (c0 : List (List U)) (c1 : List (List U)) (c2 : Int) (hc0 : WR tabs.ct 3 c0) (hc1 : WR tabs.ct 3 c1) {l : Int} (p0 : 0 ≤ l) (q0 : l ≤ 1048576) : laws_szPlan.c c0 c1 c2 l = some ⟨[[.int (szR (cntRs c0 + (cntRs c1 + 0)) l)]], []⟩ := by
  rw [laws_szPlan.eq]; (try dsimp only [gr, gi, gl, gb, gt, w64, ln, grd, Ret.i, Ret.l, Ret.b, Ret.t])
  exact sz_seq p0 q0 (sz_IntS c0 hc0 p0 q0) fun l1 p1 q1 => sz_seq p1 q1 (sz_IntS c1 hc1 p1 q1) fun l2 p2 q2 => sz_end p2
theorem sz_Emergency (c0 : Int) (c1 : Int) (c2 : Int) (c3 : Int) (c4 : List (List U)) (c5 : Bool) (hc4 : WR tabs.ct 3 c4) {l : Int} (p0 : 0 ≤ l) (q0 : l ≤ 1048576) : laws_szEmergency.c c0 c1 c2 c3 c4 c5 l = some ⟨[[.int (szR (cntRs c4 + 0) l)]], []⟩ := by
  rw [laws_szEmergency.eq]; (try dsimp only [gr, gi, gl, gb, gt, w64, ln, grd, Ret.i, Ret.l, Ret.b, Ret.t])
  exact sz_seq p0 q0 (sz_IntS c4 hc4 p0 q0) fun l1 p1 q1 => sz_end p1
theorem sz_EmergencyS (xs : List (List U)) (h : WR tabs.ct 42 xs) {l : Int} (p0 : 0 ≤ l) (q0 : l ≤ 1048576) : laws_szEmergencyS.c xs l = some ⟨[[.int (szR (cntRs xs) l)]], []⟩ := by
  rw [laws_szEmergencyS.eq]; (try dsimp only [gr, gi, gl, gb, gt, w64, ln, grd, Ret.i, Ret.l, Ret.b, Ret.t]); rw [cntRs_sum]
  refine sz_head (l0 := fun v => laws_szEmergencyS.l0 xs v 0) h.1 p0 q0 fun hl => ?_
  refine sz_loop (l0 := fun l i => laws_szEmergencyS.l0 xs l i) (c := cntR) (fun l => ?_) (fun i hi l p0 q0 => ?_) (by omega) (by omega)
  · show laws_szEmergencyS.l0 xs l _ = _
    rw [laws_szEmergencyS.l0_eq]; (try dsimp only [gr, gi, gl, gb, gt, w64, ln, grd, Ret.i, Ret.l, Ret.b, Ret.t]); rw [not_lt_nat (Nat.le_refl _)]; rfl
  · obtain ⟨c0, c1, c2, c3, c4, c5, hrow, hc4⟩ := row42 (h.2 _ (getD_mem hi (z := [])))
    have hcn := cntR_mem (getD_mem hi (z := []))
    rw [hrow] at hcn
    simp only [cntR, cntU] at hcn
    show laws_szEmergencyS.l0 xs l _ = if _ then laws_szEmergencyS.l0 xs _ _ else _
    have hlen := h.1
    rw [laws_szEmergencyS.l0_eq]; (try dsimp only [gr, gi, gl, gb, gt, w64, ln, grd, Ret.i, Ret.l, Ret.b, Ret.t]); rw [lt_nat hi, inRange_nat, decide_eq_true hi, Int.toNat_natCast, hrow, wrap_nat (by omega)]
    simp only [List.getD_cons_zero, List.getD_cons_succ, U.toInt_int, U.toBool_bool, U.toStr_str, U.toLst_lst, cond_true]
    have e1 : cntR [.int c0, .int c1, .int c2, .int c3, .lst c4, .bool c5] = cntRs c4 + 0 := by simp only [cntR, cntU]; omega
    rw [e1]
    exact sz_step (G := fun v => laws_szEmergencyS.l0 xs v ((i + 1 : Nat) : Int)) p0 (sz_Emergency c0 c1 c2 c3 c4 c5 hc4 p0 q0)
theorem mark_IntS (xs : List (List U)) (h : WR tabs.ct 3 xs) {k : Int} (p0 : 0 ≤ k) (q0 : k + (nRs xs : Int) ≤ 4611686018427387904) : laws_markIntS.c k xs = some ⟨[[.int (k + (nRs xs : Int))]], [mkRs tx0 xs k]⟩ := by
  rw [laws_markIntS.eq]; (try dsimp only [gr, gi, gl, gb, gt, w64, ln, grd, Ret.i, Ret.l, Ret.b, Ret.t])
  refine mark_loop2 tx0 (l0 := fun k i s => laws_markIntS.l0 k i s) (fun k s hs => ?_) (fun i hi k s hs hrow h0 hk => ?_) p0 q0
  · show laws_markIntS.l0 _ _ s = _
    rw [laws_markIntS.l0_eq]; (try dsimp only [gr, gi, gl, gb, gt, w64, ln, grd, Ret.i, Ret.l, Ret.b, Ret.t]); rw [← hs, not_lt_nat (Nat.le_refl _)]; rfl
  · obtain ⟨c0, hr⟩ := row3 (h.2 _ (getD_mem hi (z := [])))
    have hn := nR_mem (getD_mem hi (z := []))
    have hi' : i < s.length := by omega
    have hlen := h.1
    rw [hr] at hrow hk hn ⊢
    have e1 : k + (nR [.int c0] : Int) = k + 1 := by simp only [nR, nU]; omega
    rw [e1] at hk ⊢
    have e2 : i < 9223372036854775807 := by omega
    show laws_markIntS.l0 _ _ s = laws_markIntS.l0 _ _ _
    rw [laws_markIntS.l0_eq]; (try dsimp only [gr, gi, gl, gb, gt, w64, ln, grd, Ret.i, Ret.l, Ret.b, Ret.t]); rw [lt_nat hi', wrap_nat (by omega)]
    simp (disch := first | assumption | omega) only [Option.bind_some, Ret.u_mk, Ret.m_mk, List.getD_cons_zero, List.getD_cons_succ, U.toInt_int, U.toBool_bool, U.toStr_str, U.toLst_lst, cond_true, cond_false, setEl_length, List.length_set, Int.toNat_natCast, inRange_nat, decide_eq_true hi', setEl_eq s, setEl_set hi', setP_cons, setP_nil, getD_set hi', set_set_same, hrow, splice_nil, splice_cons, List.set_cons_zero, List.set_cons_succ, wrap_id, mkR_nil, mkR_int, mkR_bool, mkR_lst]
theorem mark_Plan (c0 : List (List U)) (c1 : List (List U)) (c2 : Int) (hc0 : WR tabs.ct 3 c0) (hc1 : WR tabs.ct 3 c1) {k : Int} (p0 : 0 ≤ k) (q0 : k + (nRs c0 : Int) + (nRs c1 : Int) ≤ 4611686018427387904) : laws_markPlan.c c2 k c0 c1 = some ⟨[[.int (k + (nRs c0 : Int) + (nRs c1 : Int))]], [mkRs tx0 c0 (k), mkRs tx0 c1 (k + (nRs c0 : Int))]⟩ := by
  rw [laws_markPlan.eq]; (try dsimp only [gr, gi, gl, gb, gt, w64, ln, grd, Ret.i, Ret.l, Ret.b, Ret.t])
  simp (disch := first | assumption | omega) only [Option.bind_some, Ret.u_mk, Ret.m_mk, List.getD_cons_zero, List.getD_cons_succ, U.toInt_int, U.toBool_bool, U.toStr_str, U.toLst_lst, cond_true, cond_false, mark_IntS]
theorem mark_EmergencyS (xs : List (List U)) (h : WR tabs.ct 46 xs) {k : Int} (p0 : 0 ≤ k) (q0 : k + (nRs xs : Int) ≤ 4611686018427387904) : laws_markEmergencyS.c k xs = some ⟨[[.int (k + (nRs xs : Int))]], [mkRs tx0 xs k]⟩ := by
  rw [laws_markEmergencyS.eq]; (try dsimp only [gr, gi, gl, gb, gt, w64, ln, grd, Ret.i, Ret.l, Ret.b, Ret.t])
  refine mark_loop2 tx0 (l0 := fun k i s => laws_markEmergencyS.l0 k i s) (fun k s hs => ?_) (fun i hi k s hs hrow h0 hk => ?_) p0 q0
  · show laws_markEmergencyS.l0 _ _ s = _
    rw [laws_markEmergencyS.l0_eq]; (try dsimp only [gr, gi, gl, gb, gt, w64, ln, grd, Ret.i, Ret.l, Ret.b, Ret.t]); rw [← hs, not_lt_nat (Nat.le_refl _)]; rfl
  · obtain ⟨c0, c1, c2, c3, c4, c5, hr, hc4⟩ := row46 (h.2 _ (getD_mem hi (z := [])))
    have hn := nR_mem (getD_mem hi (z := []))
    have hi' : i < s.length := by omega
    have hlen := h.1
    rw [hr] at hrow hk hn ⊢
    have e1 : k + (nR [.int c0, .int c1, .int c2, .int c3, .lst c4, .bool c5] : Int) = k + 1 + 1 + 1 + 1 + (nRs c4 : Int) + 1 := by simp only [nR, nU]; omega
    rw [e1] at hk ⊢
    have e2 : i < 9223372036854775807 := by omega
    show laws_markEmergencyS.l0 _ _ s = laws_markEmergencyS.l0 _ _ _
    rw [laws_markEmergencyS.l0_eq]; (try dsimp only [gr, gi, gl, gb, gt, w64, ln, grd, Ret.i, Ret.l, Ret.b, Ret.t]); rw [lt_nat hi', wrap_nat (by omega)]
    simp (disch := first | assumption | omega) only [Option.bind_some, Ret.u_mk, Ret.m_mk, List.getD_cons_zero, List.getD_cons_succ, U.toInt_int, U.toBool_bool, U.toStr_str, U.toLst_lst, cond_true, cond_false, setEl_length, List.length_set, Int.toNat_natCast, inRange_nat, decide_eq_true hi', setEl_eq s, setEl_set hi', setP_cons, setP_nil, getD_set hi', set_set_same, hrow, splice_nil, splice_cons, List.set_cons_zero, List.set_cons_succ, wrap_id, mkR_nil, mkR_int, mkR_bool, mkR_lst, mark_IntS, mark_Plan]
theorem held_IntS (xs : List (List U)) (h : WR tabs.ct 3 xs) {m : Int} (p0 : 0 ≤ m) (q0 : m + (nRs xs : Int) ≤ 4611686018427387904) : laws_heldIntS.c (mkRs tx0 xs m) m = some ⟨[[.int (m + (nRs xs : Int))]], []⟩ := by
  rw [laws_heldIntS.eq]; (try dsimp only [gr, gi, gl, gb, gt, w64, ln, grd, Ret.i, Ret.l, Ret.b, Ret.t])
  have hm := mkRs_length tx0 xs m
  have hlen := h.1
  refine held_loop2 tx0 (l0 := fun k i => laws_heldIntS.l0 (mkRs tx0 xs m) k i) p0 q0 (fun k => ?_) (fun i hi k hrow h0 hk => ?_)
  · show laws_heldIntS.l0 _ _ _ = _
    rw [laws_heldIntS.l0_eq]; (try dsimp only [gr, gi, gl, gb, gt, w64, ln, grd, Ret.i, Ret.l, Ret.b, Ret.t]); rw [show decide ((xs.length : Int) < ((mkRs tx0 xs m).length : Int)) = false from by rw [hm]; exact not_lt_nat (Nat.le_refl _)]; rfl
  · obtain ⟨c0, hr⟩ := row3 (h.2 _ (getD_mem hi (z := [])))
    have hi' : i < (mkRs tx0 xs m).length := by omega
    rw [hr] at hrow hk ⊢
    simp only [mkR_nil, mkR_int, mkR_bool, mkR_lst] at hrow
    have e1 : k + (nR [.int c0] : Int) = k + 1 := by simp only [nR, nU]; omega
    rw [e1] at hk ⊢
    show laws_heldIntS.l0 _ _ _ = laws_heldIntS.l0 _ _ _
    rw [laws_heldIntS.l0_eq]; (try dsimp only [gr, gi, gl, gb, gt, w64, ln, grd, Ret.i, Ret.l, Ret.b, Ret.t]); rw [lt_nat hi', wrap_nat (by omega)]
    simp (disch := first | assumption | omega) [-List.getD_eq_getElem?_getD, Option.bind_some, Ret.u_mk, Ret.m_mk, List.getD_cons_zero, List.getD_cons_succ, U.toInt_int, U.toBool_bool, U.toStr_str, U.toLst_lst, cond_true, cond_false, Int.toNat_natCast, inRange_nat, decide_eq_true hi', hrow, wrap_id, dec_neg]
theorem held_EmergencyS (xs : List (List U)) (h : WR tabs.ct 46 xs) {m : Int} (p0 : 0 ≤ m) (q0 : m + (nRs xs : Int) ≤ 4611686018427387904) : laws_heldEmergencyS.c (mkRs tx0 xs m) m = some ⟨[[.int (m + (nRs xs : Int))]], []⟩ := by
  rw [laws_heldEmergencyS.eq]; (try dsimp only [gr, gi, gl, gb, gt, w64, ln, grd, Ret.i, Ret.l, Ret.b, Ret.t])
  have hm := mkRs_length tx0 xs m
  have hlen := h.1
  refine held_loop2 tx0 (l0 := fun k i => laws_heldEmergencyS.l0 (mkRs tx0 xs m) k i) p0 q0 (fun k => ?_) (fun i hi k hrow h0 hk => ?_)
  · show laws_heldEmergencyS.l0 _ _ _ = _
    rw [laws_heldEmergencyS.l0_eq]; (try dsimp only [gr, gi, gl, gb, gt, w64, ln, grd, Ret.i, Ret.l, Ret.b, Ret.t]); rw [show decide ((xs.length : Int) < ((mkRs tx0 xs m).length : Int)) = false from by rw [hm]; exact not_lt_nat (Nat.le_refl _)]; rfl
  · obtain ⟨c0, c1, c2, c3, c4, c5, hr, hc4⟩ := row46 (h.2 _ (getD_mem hi (z := [])))
    have hi' : i < (mkRs tx0 xs m).length := by omega
    rw [hr] at hrow hk ⊢
    simp only [mkR_nil, mkR_int, mkR_bool, mkR_lst] at hrow
    have e1 : k + (nR [.int c0, .int c1, .int c2, .int c3, .lst c4, .bool c5] : Int) = k + 1 + 1 + 1 + 1 + (nRs c4 : Int) + 1 := by simp only [nR, nU]; omega
    rw [e1] at hk ⊢
    show laws_heldEmergencyS.l0 _ _ _ = laws_heldEmergencyS.l0 _ _ _
    rw [laws_heldEmergencyS.l0_eq]; (try dsimp only [gr, gi, gl, gb, gt, w64, ln, grd, Ret.i, Ret.l, Ret.b, Ret.t]); rw [lt_nat hi', wrap_nat (by omega)]
    simp (disch := first | assumption | omega) [-List.getD_eq_getElem?_getD, Option.bind_some, Ret.u_mk, Ret.m_mk, List.getD_cons_zero, List.getD_cons_succ, U.toInt_int, U.toBool_bool, U.toStr_str, U.toLst_lst, cond_true, cond_false, Int.toNat_natCast, inRange_nat, decide_eq_true hi', hrow, wrap_id, dec_neg, held_IntS]
def prs : List (TypeId × TypeId) := [(42, 46)]
theorem prs_ok : isoB tabs prs = true := by kernel_rfl
end Go.Proofs.Yteahcmobjegpnaa.Eng
