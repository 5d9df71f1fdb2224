/- StartSession answers as the reference answers: the pure statement. Written by a program of ours (wip/bin/har2.py) over SameStartSession. -/
import Derived.Test.YtlknolcgdkhccaaGreatBase
import Derived.Test.YtlknolcgdkhccaaGreatSameStartSession
namespace Go.Proofs.YtlknolcgdkhccaaGreat.Eng
open Go.RowKit
set_option linter.unusedVariables false
set_option linter.unusedSimpArgs false
set_option maxRecDepth 100000
theorem FnExactStartSession_pure (u0 : List U) (W0 : WTs tabs.ct (tabs.ct 84) u0) (u1 : List U) (W1 : WTs tabs.ct (tabs.ct 61) u1) (u2 : List U) (W2 : WTs tabs.ct (tabs.ct 3) u2) (u3 : List U) (W3 : WTs tabs.ct (tabs.ct 63) u3) (u4 : List U) (W4 : WTs tabs.ct (tabs.ct 48) u4) : dn 5 [argSV tabs 84 u0, argSV tabs 61 u1, argSV tabs 3 u2, argSV tabs 63 u3, argSV tabs 48 u4] [] = some ⟨[[.bool true]], []⟩ := by
  have W0' : WTs tabs.ct [.slc 50] u0 := W0
  obtain ⟨v, _, rfl, k, hn⟩ := W0'.cons
  obtain rfl := hn.nil
  obtain ⟨p0, rfl, hp0⟩ := k.slc_inv
  have g1 := W1
  obtain ⟨p1_0, p1_1, p1_2, p1_3, p1_4, p1_5, p1_6, p1_7, p1_8, p1_9, rfl, hp1_3, hp1_5, hp1_6, hp1_7, hp1_9⟩ := row61 W1
  have gp1 : Bd [p1_0, p1_1, p1_2, p1_4, p1_8] := by
    intro n hn
    simp only [List.mem_cons, List.not_mem_nil, or_false] at hn
    rcases hn with hn | hn | hn | hn | hn
    · rw [hn]; exact wI (g1.2 0 _ _ rfl rfl)
    · rw [hn]; exact wI (g1.2 1 _ _ rfl rfl)
    · rw [hn]; exact wI (g1.2 2 _ _ rfl rfl)
    · rw [hn]; exact wI (g1.2 4 _ _ rfl rfl)
    · rw [hn]; exact wI (g1.2 8 _ _ rfl rfl)
  have W2' : WTs tabs.ct [.int .i64] u2 := W2
  obtain ⟨v, _, rfl, k, hn⟩ := W2'.cons
  obtain rfl := hn.nil
  obtain ⟨p2, rfl, hp2⟩ := k.int_inv
  have hp2 := wf64 hp2
  have g3 := W3
  obtain ⟨p3_0, p3_1, p3_2, p3_3, p3_4, p3_5, rfl⟩ := row63 W3
  have gp3 : Bd [p3_0, p3_1, p3_2, p3_3, p3_4, p3_5] := by
    intro n hn
    simp only [List.mem_cons, List.not_mem_nil, or_false] at hn
    rcases hn with hn | hn | hn | hn | hn | hn
    · rw [hn]; exact wI (g3.2 0 _ _ rfl rfl)
    · rw [hn]; exact wI (g3.2 1 _ _ rfl rfl)
    · rw [hn]; exact wI (g3.2 2 _ _ rfl rfl)
    · rw [hn]; exact wI (g3.2 3 _ _ rfl rfl)
    · rw [hn]; exact wI (g3.2 4 _ _ rfl rfl)
    · rw [hn]; exact wI (g3.2 5 _ _ rfl rfl)
  have g4 := W4
  obtain ⟨p4_0, p4_1, p4_2, p4_3, p4_4, p4_5, rfl⟩ := row48 W4
  have gp4 : Bd [p4_0, p4_1, p4_2, p4_3, p4_4, p4_5] := by
    intro n hn
    simp only [List.mem_cons, List.not_mem_nil, or_false] at hn
    rcases hn with hn | hn | hn | hn | hn | hn
    · rw [hn]; exact wI (g4.2 0 _ _ rfl rfl)
    · rw [hn]; exact wI (g4.2 1 _ _ rfl rfl)
    · rw [hn]; exact wI (g4.2 2 _ _ rfl rfl)
    · rw [hn]; exact wI (g4.2 3 _ _ rfl rfl)
    · rw [hn]; exact wI (g4.2 4 _ _ rfl rfl)
    · rw [hn]; exact wI (g4.2 5 _ _ rfl rfl)
  show laws_FnExactStartSession.c p0 p1_0 p1_1 p1_2 p1_3 p1_4 p1_5 p1_6 p1_7 p1_8 p1_9 p2 p3_0 p3_1 p3_2 p3_3 p3_4 p3_5 p4_0 p4_1 p4_2 p4_3 p4_4 p4_5 = _
  rw [laws_FnExactStartSession.eq]; (try dsimp only [gr, gi, gl, gb, gt, w64, ln, grd, Ret.i, Ret.l, Ret.b, Ret.t, Ret.ij, Ret.lj, Ret.bj, Ret.tj])
  rw [sz_SessionS p0 hp0 (by omega) (by omega)]
  show (bif decide (szR (cntRs p0) (1048576) < 0) then _ else _) = _
  unfold szR
  by_cases hc0 : ((cntRs p0 : Nat) : Int) ≤ 1048576
  · rw [if_pos hc0, dec_neg (by omega), cond_false]
    show (laws_szPoint.c p1_0 p1_1 p1_2 p1_3 p1_4 p1_5 p1_6 p1_7 p1_8 p1_9 (1048576 - ((cntRs p0 : Nat) : Int))).bind _ = _
    rw [sz_Point p1_0 p1_1 p1_2 p1_3 p1_4 p1_5 p1_6 p1_7 p1_8 p1_9 hp1_3 hp1_5 hp1_6 hp1_7 hp1_9 (by omega) (by omega)]
    show (bif decide (szR ((cntRs p1_3 + ((cntRs p1_5 + 0) + 0)) + (cntRs p1_6 + (cntRs p1_7 + (cntRs p1_9 + 0)))) (1048576 - ((cntRs p0 : Nat) : Int)) < 0) then _ else _) = _
    unfold szR
    by_cases hc1 : (((cntRs p1_3 + ((cntRs p1_5 + 0) + 0)) + (cntRs p1_6 + (cntRs p1_7 + (cntRs p1_9 + 0))) : Nat) : Int) ≤ 1048576 - ((cntRs p0 : Nat) : Int)
    · rw [if_pos hc1, dec_neg (by omega), cond_false]
      have bp0 : cntRs p0 ≤ 1048576 := by omega
      have bp1_3 : cntRs p1_3 ≤ 1048576 := by omega
      have bp1_5 : cntRs p1_5 ≤ 1048576 := by omega
      have bp1_6 : cntRs p1_6 ≤ 1048576 := by omega
      have bp1_7 : cntRs p1_7 ≤ 1048576 := by omega
      have bp1_9 : cntRs p1_9 ≤ 1048576 := by omega
      have hto0 := to_SessionS p0 hp0 bp0
      have hto1 := to_Point p1_0 p1_1 p1_2 p1_3 p1_4 p1_5 p1_6 p1_7 p1_8 p1_9 hp1_3 bp1_3 hp1_5 bp1_5 hp1_6 bp1_6 hp1_7 bp1_7 hp1_9 bp1_9
      have hto2 := to_Cert p3_0 p3_1 p3_2 p3_3 p3_4 p3_5 
      have hto3 := to_Request p4_0 p4_1 p4_2 p4_3 p4_4 p4_5 
      have heq0 := eq_SessionS p0 (hp0.iso prs_ok (by rfl)) (by omega)
      have heq1 := eq_Point p1_0 p1_1 p1_2 p1_3 p1_4 p1_5 p1_6 p1_7 p1_8 p1_9 (hp1_3.iso prs_ok (by rfl)) (by omega) (hp1_5.iso prs_ok (by rfl)) (by omega) (hp1_6.iso prs_ok (by rfl)) (by omega) (hp1_7.iso prs_ok (by rfl)) (by omega) (hp1_9.iso prs_ok (by rfl)) (by omega)
      have heq2 := eq_Cert p3_0 p3_1 p3_2 p3_3 p3_4 p3_5 
      have heq3 := eq_Request p4_0 p4_1 p4_2 p4_3 p4_4 p4_5 
      obtain ⟨r0, r1_0, r1_1, r1_2, r1_3, r1_4, r1_5, r1_6, r1_7, r1_8, r1_9, r2, h1, h2, hr0, br0, hr1_3, br1_3, hr1_5, br1_5, hr1_6, br1_6, hr1_7, br1_7, hr1_9, br1_9⟩ := same_StartSession p0 p1_0 p1_1 p1_2 p1_3 p1_4 p1_5 p1_6 p1_7 p1_8 p1_9 p2 p3_0 p3_1 p3_2 p3_3 p3_4 p3_5 p4_0 p4_1 p4_2 p4_3 p4_4 p4_5 (hp0.iso prs_ok (by rfl)) bp0 gp1 (hp1_3.iso prs_ok (by rfl)) bp1_3 (hp1_5.iso prs_ok (by rfl)) bp1_5 (hp1_6.iso prs_ok (by rfl)) bp1_6 (hp1_7.iso prs_ok (by rfl)) bp1_7 (hp1_9.iso prs_ok (by rfl)) bp1_9 hp2 gp3 gp4
      have hB := widths (T := tabs) (by rfl)
      have np0 := ((hp0.iso prs_ok (by rfl))).n_le hB
      have np1_3 := ((hp1_3.iso prs_ok (by rfl))).n_le hB
      have np1_5 := ((hp1_5.iso prs_ok (by rfl))).n_le hB
      have np1_6 := ((hp1_6.iso prs_ok (by rfl))).n_le hB
      have np1_7 := ((hp1_7.iso prs_ok (by rfl))).n_le hB
      have np1_9 := ((hp1_9.iso prs_ok (by rfl))).n_le hB
      have nr0 := (hr0).n_le hB
      have nr1_3 := (hr1_3).n_le hB
      have nr1_5 := (hr1_5).n_le hB
      have nr1_6 := (hr1_6).n_le hB
      have nr1_7 := (hr1_7).n_le hB
      have nr1_9 := (hr1_9).n_le hB
      simp (disch := omega) [-List.getD_eq_getElem?_getD, Option.bind_some, Ret.u_mk, Ret.m_mk, List.getD_cons_zero, List.getD_cons_succ, U.toInt_int, U.toBool_bool, U.toStr_str, U.toLst_lst, cond_true, cond_false, hto0, hto1, hto2, hto3, heq0, heq1, heq2, heq3, eq_SessionS r0 hr0 br0, eq_Point r1_0 r1_1 r1_2 r1_3 r1_4 r1_5 r1_6 r1_7 r1_8 r1_9 hr1_3 br1_3 hr1_5 br1_5 hr1_6 br1_6 hr1_7 br1_7 hr1_9 br1_9, h1, h2, dec_neg, mark_SessionS p0 (hp0.iso prs_ok (by rfl)), mark_Point p1_0 p1_1 p1_2 p1_3 p1_4 p1_5 p1_6 p1_7 p1_8 p1_9 (hp1_3.iso prs_ok (by rfl)) (hp1_5.iso prs_ok (by rfl)) (hp1_6.iso prs_ok (by rfl)) (hp1_7.iso prs_ok (by rfl)) (hp1_9.iso prs_ok (by rfl)), mark_SessionS r0 hr0, held_SessionS r0 hr0, mark_Point r1_0 r1_1 r1_2 r1_3 r1_4 r1_5 r1_6 r1_7 r1_8 r1_9 hr1_3 hr1_5 hr1_6 hr1_7 hr1_9, held_Point r1_0 r1_1 r1_2 r1_3 r1_4 r1_5 r1_6 r1_7 r1_8 r1_9 hr1_3 hr1_5 hr1_6 hr1_7 hr1_9]
    · rw [if_neg hc1]; rfl
  · rw [if_neg hc0]; rfl
end Go.Proofs.YtlknolcgdkhccaaGreat.Eng
