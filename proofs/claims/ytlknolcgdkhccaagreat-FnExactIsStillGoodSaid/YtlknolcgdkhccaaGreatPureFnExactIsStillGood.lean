/- IsStillGood answers as the reference answers: the pure statement. Written by a program of ours (wip/bin/har2.py) over SameIsStillGood. -/
import Derived.Test.YtlknolcgdkhccaaGreatBase
import Derived.Test.YtlknolcgdkhccaaGreatSameIsStillGood
namespace Go.Proofs.YtlknolcgdkhccaaGreat.Eng
open Go.RowKit
set_option linter.unusedVariables false
set_option linter.unusedSimpArgs false
set_option maxRecDepth 100000
theorem FnExactIsStillGood_pure (u0 : List U) (W0 : WTs tabs.ct (tabs.ct 50) u0) (u1 : List U) (W1 : WTs tabs.ct (tabs.ct 61) u1) (u2 : List U) (W2 : WTs tabs.ct (tabs.ct 3) u2) (u3 : List U) (W3 : WTs tabs.ct (tabs.ct 63) u3) (u4 : List U) (W4 : WTs tabs.ct (tabs.ct 3) u4) : dn 4 [argSV tabs 50 u0, argSV tabs 61 u1, argSV tabs 3 u2, argSV tabs 63 u3, argSV tabs 3 u4] [] = some ⟨[[.bool true]], []⟩ := by
  obtain ⟨p0_0, p0_1, p0_2, p0_3, p0_4, p0_5, p0_6, p0_7, p0_8, p0_9, rfl⟩ := row50 W0
  obtain ⟨p1_0, p1_1, p1_2, p1_3, p1_4, p1_5, p1_6, p1_7, p1_8, p1_9, rfl, hp1_3, hp1_5, hp1_6, hp1_7, hp1_9⟩ := row61 W1
  have W2' : WTs tabs.ct [.int .i64] u2 := W2
  obtain ⟨v, _, rfl, k, hn⟩ := W2'.cons
  obtain rfl := hn.nil
  obtain ⟨p2, rfl, hp2⟩ := k.int_inv
  have hp2 := wf64 hp2
  obtain ⟨p3_0, p3_1, p3_2, p3_3, p3_4, p3_5, rfl⟩ := row63 W3
  have W4' : WTs tabs.ct [.int .i64] u4 := W4
  obtain ⟨v, _, rfl, k, hn⟩ := W4'.cons
  obtain rfl := hn.nil
  obtain ⟨p4, rfl, hp4⟩ := k.int_inv
  have hp4 := wf64 hp4
  show laws_FnExactIsStillGood.c p0_0 p0_1 p0_2 p0_3 p0_4 p0_5 p0_6 p0_7 p0_8 p0_9 p1_0 p1_1 p1_2 p1_3 p1_4 p1_5 p1_6 p1_7 p1_8 p1_9 p2 p3_0 p3_1 p3_2 p3_3 p3_4 p3_5 p4 = _
  rw [laws_FnExactIsStillGood.eq]; (try dsimp only [gr, gi, gl, gb, gt, w64, ln, grd, Ret.i, Ret.l, Ret.b, Ret.t, Ret.ij, Ret.lj, Ret.bj, Ret.tj])
  rw [sz_Point p1_0 p1_1 p1_2 p1_3 p1_4 p1_5 p1_6 p1_7 p1_8 p1_9 hp1_3 hp1_5 hp1_6 hp1_7 hp1_9 (by omega) (by omega)]
  show (bif decide (szR ((cntRs p1_3 + ((cntRs p1_5 + 0) + 0)) + (cntRs p1_6 + (cntRs p1_7 + (cntRs p1_9 + 0)))) (1048576) < 0) then _ else _) = _
  unfold szR
  by_cases hc0 : (((cntRs p1_3 + ((cntRs p1_5 + 0) + 0)) + (cntRs p1_6 + (cntRs p1_7 + (cntRs p1_9 + 0))) : Nat) : Int) ≤ 1048576
  · rw [if_pos hc0, dec_neg (by omega), cond_false]
    have bp1_3 : cntRs p1_3 ≤ 1048576 := by omega
    have bp1_5 : cntRs p1_5 ≤ 1048576 := by omega
    have bp1_6 : cntRs p1_6 ≤ 1048576 := by omega
    have bp1_7 : cntRs p1_7 ≤ 1048576 := by omega
    have bp1_9 : cntRs p1_9 ≤ 1048576 := by omega
    have hto0 := to_Session p0_0 p0_1 p0_2 p0_3 p0_4 p0_5 p0_6 p0_7 p0_8 p0_9 
    have hto1 := to_Point p1_0 p1_1 p1_2 p1_3 p1_4 p1_5 p1_6 p1_7 p1_8 p1_9 hp1_3 bp1_3 hp1_5 bp1_5 hp1_6 bp1_6 hp1_7 bp1_7 hp1_9 bp1_9
    have hto2 := to_Cert p3_0 p3_1 p3_2 p3_3 p3_4 p3_5 
    have heq0 := eq_Session p0_0 p0_1 p0_2 p0_3 p0_4 p0_5 p0_6 p0_7 p0_8 p0_9 
    have heq1 := eq_Point p1_0 p1_1 p1_2 p1_3 p1_4 p1_5 p1_6 p1_7 p1_8 p1_9 (hp1_3.iso prs_ok (by rfl)) (by omega) (hp1_5.iso prs_ok (by rfl)) (by omega) (hp1_6.iso prs_ok (by rfl)) (by omega) (hp1_7.iso prs_ok (by rfl)) (by omega) (hp1_9.iso prs_ok (by rfl)) (by omega)
    have heq2 := eq_Cert p3_0 p3_1 p3_2 p3_3 p3_4 p3_5 
    obtain ⟨r0, h1, h2⟩ := same_IsStillGood p0_0 p0_1 p0_2 p0_3 p0_4 p0_5 p0_6 p0_7 p0_8 p0_9 p1_0 p1_1 p1_2 p1_3 p1_4 p1_5 p1_6 p1_7 p1_8 p1_9 p2 p3_0 p3_1 p3_2 p3_3 p3_4 p3_5 p4 (hp1_3.iso prs_ok (by rfl)) bp1_3 (hp1_5.iso prs_ok (by rfl)) bp1_5 (hp1_6.iso prs_ok (by rfl)) bp1_6 (hp1_7.iso prs_ok (by rfl)) bp1_7 (hp1_9.iso prs_ok (by rfl)) bp1_9 hp2 hp4
    simp  [-List.getD_eq_getElem?_getD, Option.bind_some, Ret.u_mk, Ret.m_mk, List.getD_cons_zero, List.getD_cons_succ, U.toInt_int, U.toBool_bool, U.toStr_str, U.toLst_lst, cond_true, cond_false, hto0, hto1, hto2, heq0, heq1, heq2, h1, h2]
  · rw [if_neg hc0]; rfl
end Go.Proofs.YtlknolcgdkhccaaGreat.Eng
