/- ReviewSessions answers as the reference answers: the pure statement. Written by a program of ours (wip/bin/har2.py) over SameReviewSessions. -/
import Derived.Test.YtlknolcgdkhccaaGreatBase
import Derived.Test.YtlknolcgdkhccaaGreatSameReviewSessions
namespace Go.Proofs.YtlknolcgdkhccaaGreat.Eng
open Go.RowKit
set_option linter.unusedVariables false
set_option linter.unusedSimpArgs false
set_option maxRecDepth 100000
theorem FnExactReviewSessions_pure (u0 : List U) (W0 : WTs tabs.ct (tabs.ct 84) u0) (u1 : List U) (W1 : WTs tabs.ct (tabs.ct 94) u1) (u2 : List U) (W2 : WTs tabs.ct (tabs.ct 3) u2) (u3 : List U) (W3 : WTs tabs.ct (tabs.ct 95) u3) (u4 : List U) (W4 : WTs tabs.ct (tabs.ct 3) u4) : dn 6 [argSV tabs 84 u0, argSV tabs 94 u1, argSV tabs 3 u2, argSV tabs 95 u3, argSV tabs 3 u4] [] = some ⟨[[.bool true]], []⟩ := by
  have W0' : WTs tabs.ct [.slc 50] u0 := W0
  obtain ⟨v, _, rfl, k, hn⟩ := W0'.cons
  obtain rfl := hn.nil
  obtain ⟨p0, rfl, hp0⟩ := k.slc_inv
  have W1' : WTs tabs.ct [.slc 61] u1 := W1
  obtain ⟨v, _, rfl, k, hn⟩ := W1'.cons
  obtain rfl := hn.nil
  obtain ⟨p1, rfl, hp1⟩ := k.slc_inv
  have W2' : WTs tabs.ct [.int .i64] u2 := W2
  obtain ⟨v, _, rfl, k, hn⟩ := W2'.cons
  obtain rfl := hn.nil
  obtain ⟨p2, rfl, hp2⟩ := k.int_inv
  have hp2 := wf64 hp2
  have W3' : WTs tabs.ct [.slc 63] u3 := W3
  obtain ⟨v, _, rfl, k, hn⟩ := W3'.cons
  obtain rfl := hn.nil
  obtain ⟨p3, rfl, hp3⟩ := k.slc_inv
  have W4' : WTs tabs.ct [.int .i64] u4 := W4
  obtain ⟨v, _, rfl, k, hn⟩ := W4'.cons
  obtain rfl := hn.nil
  obtain ⟨p4, rfl, hp4⟩ := k.int_inv
  have hp4 := wf64 hp4
  show laws_FnExactReviewSessions.c p0 p1 p2 p3 p4 = _
  rw [laws_FnExactReviewSessions.eq]; (try dsimp only [gr, gi, gl, gb, gt, w64, ln, grd, Ret.i, Ret.l, Ret.b, Ret.t, Ret.ij, Ret.lj, Ret.bj, Ret.tj])
  rw [sz_SessionS p0 hp0 (by omega) (by omega)]
  show (bif decide (szR (cntRs p0) (1048576) < 0) then _ else _) = _
  unfold szR
  by_cases hc0 : ((cntRs p0 : Nat) : Int) ≤ 1048576
  · rw [if_pos hc0, dec_neg (by omega), cond_false]
    show (laws_szPointS.c p1 (1048576 - ((cntRs p0 : Nat) : Int))).bind _ = _
    rw [sz_PointS p1 hp1 (by omega) (by omega)]
    show (bif decide (szR (cntRs p1) (1048576 - ((cntRs p0 : Nat) : Int)) < 0) then _ else _) = _
    unfold szR
    by_cases hc1 : ((cntRs p1 : Nat) : Int) ≤ 1048576 - ((cntRs p0 : Nat) : Int)
    · rw [if_pos hc1, dec_neg (by omega), cond_false]
      show (laws_szCertS.c p3 (1048576 - ((cntRs p0 : Nat) : Int) - ((cntRs p1 : Nat) : Int))).bind _ = _
      rw [sz_CertS p3 hp3 (by omega) (by omega)]
      show (bif decide (szR (cntRs p3) (1048576 - ((cntRs p0 : Nat) : Int) - ((cntRs p1 : Nat) : Int)) < 0) then _ else _) = _
      unfold szR
      by_cases hc2 : ((cntRs p3 : Nat) : Int) ≤ 1048576 - ((cntRs p0 : Nat) : Int) - ((cntRs p1 : Nat) : Int)
      · rw [if_pos hc2, dec_neg (by omega), cond_false]
        have bp0 : cntRs p0 ≤ 1048576 := by omega
        have bp1 : cntRs p1 ≤ 1048576 := by omega
        have bp3 : cntRs p3 ≤ 1048576 := by omega
        have hto0 := to_SessionS p0 hp0 bp0
        have hto1 := to_PointS p1 hp1 bp1
        have hto2 := to_CertS p3 hp3 bp3
        have heq0 := eq_SessionS p0 (hp0.iso prs_ok (by rfl)) (by omega)
        have heq1 := eq_PointS p1 (hp1.iso prs_ok (by rfl)) (by omega)
        have heq2 := eq_CertS p3 (hp3.iso prs_ok (by rfl)) (by omega)
        obtain ⟨r0, r1, h1, h2, hr0, br0⟩ := same_ReviewSessions p0 p1 p2 p3 p4 (hp0.iso prs_ok (by rfl)) bp0 (hp1.iso prs_ok (by rfl)) bp1 hp2 (hp3.iso prs_ok (by rfl)) bp3 hp4
        have hB := widths (T := tabs) (by rfl)
        have np0 := ((hp0.iso prs_ok (by rfl))).n_le hB
        have np1 := ((hp1.iso prs_ok (by rfl))).n_le hB
        have np3 := ((hp3.iso prs_ok (by rfl))).n_le hB
        have nr0 := (hr0).n_le hB
        simp (disch := omega) [-List.getD_eq_getElem?_getD, Option.bind_some, Ret.u_mk, Ret.m_mk, List.getD_cons_zero, List.getD_cons_succ, U.toInt_int, U.toBool_bool, U.toStr_str, U.toLst_lst, cond_true, cond_false, hto0, hto1, hto2, heq0, heq1, heq2, eq_SessionS r0 hr0 br0, h1, h2, dec_neg, mark_SessionS p0 (hp0.iso prs_ok (by rfl)), mark_PointS p1 (hp1.iso prs_ok (by rfl)), mark_CertS p3 (hp3.iso prs_ok (by rfl)), mark_SessionS r0 hr0, held_SessionS r0 hr0]
      · rw [if_neg hc2]; rfl
    · rw [if_neg hc1]; rfl
  · rw [if_neg hc0]; rfl
end Go.Proofs.YtlknolcgdkhccaaGreat.Eng
