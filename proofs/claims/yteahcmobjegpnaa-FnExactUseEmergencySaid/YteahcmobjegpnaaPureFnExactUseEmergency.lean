/- UseEmergency answers as the reference answers: the pure statement. Written by a program of ours (wip/bin/har2.py) over SameUseEmergency. -/
import Derived.Test.YteahcmobjegpnaaBase
import Derived.Test.YteahcmobjegpnaaSameUseEmergency
namespace Go.Proofs.Yteahcmobjegpnaa.Eng
open Go.RowKit
set_option linter.unusedVariables false
set_option linter.unusedSimpArgs false
set_option maxRecDepth 100000
theorem FnExactUseEmergency_pure (u0 : List U) (W0 : WTs tabs.ct (tabs.ct 24) u0) (u1 : List U) (W1 : WTs tabs.ct (tabs.ct 25) u1) (u2 : List U) (W2 : WTs tabs.ct (tabs.ct 3) u2) (u3 : List U) (W3 : WTs tabs.ct (tabs.ct 3) u3) (u4 : List U) (W4 : WTs tabs.ct (tabs.ct 3) u4) : dn 3 [argSV tabs 24 u0, argSV tabs 25 u1, argSV tabs 3 u2, argSV tabs 3 u3, argSV tabs 3 u4] [] = some ⟨[[.bool true]], []⟩ := by
  obtain ⟨p0_0, p0_1, p0_2, rfl, hp0_0, hp0_1⟩ := row24 W0
  have W1' : WTs tabs.ct [.slc 42] u1 := W1
  obtain ⟨v, _, rfl, k, hn⟩ := W1'.cons
  obtain rfl := hn.nil
  obtain ⟨p1, rfl, hp1⟩ := k.slc_inv
  have W2' : WTs tabs.ct [.int .i64] u2 := W2
  obtain ⟨v, _, rfl, k, hn⟩ := W2'.cons
  obtain rfl := hn.nil
  obtain ⟨p2, rfl, hp2⟩ := k.int_inv
  have hp2 := wf64 hp2
  have W3' : WTs tabs.ct [.int .i64] u3 := W3
  obtain ⟨v, _, rfl, k, hn⟩ := W3'.cons
  obtain rfl := hn.nil
  obtain ⟨p3, rfl, hp3⟩ := k.int_inv
  have hp3 := wf64 hp3
  have W4' : WTs tabs.ct [.int .i64] u4 := W4
  obtain ⟨v, _, rfl, k, hn⟩ := W4'.cons
  obtain rfl := hn.nil
  obtain ⟨p4, rfl, hp4⟩ := k.int_inv
  have hp4 := wf64 hp4
  show laws_FnExactUseEmergency.c p0_0 p0_1 p0_2 p1 p2 p3 p4 = _
  rw [laws_FnExactUseEmergency.eq]; (try dsimp only [gr, gi, gl, gb, gt, w64, ln, grd, Ret.i, Ret.l, Ret.b, Ret.t, Ret.ij, Ret.lj, Ret.bj, Ret.tj])
  rw [sz_Plan p0_0 p0_1 p0_2 hp0_0 hp0_1 (by omega) (by omega)]
  show (bif decide (szR (cntRs p0_0 + (cntRs p0_1 + 0)) (1048576) < 0) then _ else _) = _
  unfold szR
  by_cases hc0 : ((cntRs p0_0 + (cntRs p0_1 + 0) : Nat) : Int) ≤ 1048576
  · rw [if_pos hc0, dec_neg (by omega), cond_false]
    show (laws_szEmergencyS.c p1 (1048576 - ((cntRs p0_0 + (cntRs p0_1 + 0) : Nat) : Int))).bind _ = _
    rw [sz_EmergencyS p1 hp1 (by omega) (by omega)]
    show (bif decide (szR (cntRs p1) (1048576 - ((cntRs p0_0 + (cntRs p0_1 + 0) : Nat) : Int)) < 0) then _ else _) = _
    unfold szR
    by_cases hc1 : ((cntRs p1 : Nat) : Int) ≤ 1048576 - ((cntRs p0_0 + (cntRs p0_1 + 0) : Nat) : Int)
    · rw [if_pos hc1, dec_neg (by omega), cond_false]
      have bp0_0 : cntRs p0_0 ≤ 1048576 := by omega
      have bp0_1 : cntRs p0_1 ≤ 1048576 := by omega
      have bp1 : cntRs p1 ≤ 1048576 := by omega
      have hto0 := to_Plan p0_0 p0_1 p0_2 hp0_0 bp0_0 hp0_1 bp0_1
      have hto1 := to_EmergencyS p1 hp1 bp1
      have heq0 := eq_Plan p0_0 p0_1 p0_2 hp0_0 (by omega) hp0_1 (by omega)
      have heq1 := eq_EmergencyS p1 (hp1.iso prs_ok (by rfl)) (by omega)
      obtain ⟨r0, r1, h1, h2, hr0, br0⟩ := same_UseEmergency p0_0 p0_1 p0_2 p1 p2 p3 p4 hp0_0 bp0_0 hp0_1 bp0_1 (hp1.iso prs_ok (by rfl)) bp1 hp2 hp3 hp4
      have hB := widths (T := tabs) (by rfl)
      have np0_0 := (hp0_0).n_le hB
      have np0_1 := (hp0_1).n_le hB
      have np1 := ((hp1.iso prs_ok (by rfl))).n_le hB
      have nr0 := (hr0).n_le hB
      simp (disch := omega) [-List.getD_eq_getElem?_getD, Option.bind_some, Ret.u_mk, Ret.m_mk, List.getD_cons_zero, List.getD_cons_succ, U.toInt_int, U.toBool_bool, U.toStr_str, U.toLst_lst, cond_true, cond_false, hto0, hto1, heq0, heq1, eq_EmergencyS r0 hr0 br0, h1, h2, dec_neg, mark_Plan p0_0 p0_1 p0_2 hp0_0 hp0_1, mark_EmergencyS p1 (hp1.iso prs_ok (by rfl)), mark_EmergencyS r0 hr0, held_EmergencyS r0 hr0]
    · rw [if_neg hc1]; rfl
  · rw [if_neg hc0]; rfl
end Go.Proofs.Yteahcmobjegpnaa.Eng
