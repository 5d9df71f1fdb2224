/- IsWorld answers as the reference answers: the pure statement. Written by a program of ours (wip/bin/har2.py) over SameIsWorld. -/
import Derived.Test.YteahcmobjegpnaaGreatBase
import Derived.Test.YteahcmobjegpnaaGreatSameIsWorld
namespace Go.Proofs.YteahcmobjegpnaaGreat.Eng
open Go.RowKit
set_option linter.unusedVariables false
set_option linter.unusedSimpArgs false
set_option maxRecDepth 100000
theorem FnExactIsWorld_pure (u0 : List U) (W0 : WTs tabs.ct (tabs.ct 42) u0) : dn 3 [argSV tabs 42 u0] [] = some ⟨[[.bool true]], []⟩ := by
  obtain ⟨p0_0, p0_1, p0_2, p0_3, p0_4, p0_5, p0_6, p0_7, p0_8, p0_9, p0_10, p0_11, p0_12, p0_13, p0_14, p0_15, p0_16, p0_17, p0_18, p0_19, rfl, hp0_1, hp0_2, hp0_3, hp0_4, hp0_6, hp0_7, hp0_8, hp0_9, hp0_11, hp0_12, hp0_13, hp0_14, hp0_15, hp0_16, hp0_18, hp0_19⟩ := row42 W0
  show laws_FnExactIsWorld.c p0_0 p0_1 p0_2 p0_3 p0_4 p0_5 p0_6 p0_7 p0_8 p0_9 p0_10 p0_11 p0_12 p0_13 p0_14 p0_15 p0_16 p0_17 p0_18 p0_19 = _
  rw [laws_FnExactIsWorld.eq]; (try dsimp only [gr, gi, gl, gb, gt, w64, ln, grd, Ret.i, Ret.l, Ret.b, Ret.t, Ret.ij, Ret.lj, Ret.bj, Ret.tj])
  rw [sz_World p0_0 p0_1 p0_2 p0_3 p0_4 p0_5 p0_6 p0_7 p0_8 p0_9 p0_10 p0_11 p0_12 p0_13 p0_14 p0_15 p0_16 p0_17 p0_18 p0_19 hp0_1 hp0_2 hp0_3 hp0_4 hp0_6 hp0_7 hp0_8 hp0_9 hp0_11 hp0_12 hp0_13 hp0_14 hp0_15 hp0_16 hp0_18 hp0_19 (by omega) (by omega)]
  show (bif decide (szR ((cntRs p0_1 + (cntRs p0_2 + (cntRs p0_3 + (cntRs p0_4 + (cntRs p0_6 + 0))))) + (cntRs p0_7 + (cntRs p0_8 + (cntRs p0_9 + (cntRs p0_11 + (cntRs p0_12 + (cntRs p0_13 + (cntRs p0_14 + ((cntRs p0_15 + (cntRs p0_16 + 0)) + (cntRs p0_18 + (cntRs p0_19 + 0))))))))))) (1048576) < 0) then _ else _) = _
  unfold szR
  by_cases hc0 : (((cntRs p0_1 + (cntRs p0_2 + (cntRs p0_3 + (cntRs p0_4 + (cntRs p0_6 + 0))))) + (cntRs p0_7 + (cntRs p0_8 + (cntRs p0_9 + (cntRs p0_11 + (cntRs p0_12 + (cntRs p0_13 + (cntRs p0_14 + ((cntRs p0_15 + (cntRs p0_16 + 0)) + (cntRs p0_18 + (cntRs p0_19 + 0)))))))))) : Nat) : Int) ≤ 1048576
  · rw [if_pos hc0, dec_neg (by omega), cond_false]
    have bp0_1 : cntRs p0_1 ≤ 1048576 := by omega
    have bp0_2 : cntRs p0_2 ≤ 1048576 := by omega
    have bp0_3 : cntRs p0_3 ≤ 1048576 := by omega
    have bp0_4 : cntRs p0_4 ≤ 1048576 := by omega
    have bp0_6 : cntRs p0_6 ≤ 1048576 := by omega
    have bp0_7 : cntRs p0_7 ≤ 1048576 := by omega
    have bp0_8 : cntRs p0_8 ≤ 1048576 := by omega
    have bp0_9 : cntRs p0_9 ≤ 1048576 := by omega
    have bp0_11 : cntRs p0_11 ≤ 1048576 := by omega
    have bp0_12 : cntRs p0_12 ≤ 1048576 := by omega
    have bp0_13 : cntRs p0_13 ≤ 1048576 := by omega
    have bp0_14 : cntRs p0_14 ≤ 1048576 := by omega
    have bp0_15 : cntRs p0_15 ≤ 1048576 := by omega
    have bp0_16 : cntRs p0_16 ≤ 1048576 := by omega
    have bp0_18 : cntRs p0_18 ≤ 1048576 := by omega
    have bp0_19 : cntRs p0_19 ≤ 1048576 := by omega
    have hto0 := to_World p0_0 p0_1 p0_2 p0_3 p0_4 p0_5 p0_6 p0_7 p0_8 p0_9 p0_10 p0_11 p0_12 p0_13 p0_14 p0_15 p0_16 p0_17 p0_18 p0_19 hp0_1 bp0_1 hp0_2 bp0_2 hp0_3 bp0_3 hp0_4 bp0_4 hp0_6 bp0_6 hp0_7 bp0_7 hp0_8 bp0_8 hp0_9 bp0_9 hp0_11 bp0_11 hp0_12 bp0_12 hp0_13 bp0_13 hp0_14 bp0_14 hp0_15 bp0_15 hp0_16 bp0_16 hp0_18 bp0_18 hp0_19 bp0_19
    have heq0 := eq_World p0_0 p0_1 p0_2 p0_3 p0_4 p0_5 p0_6 p0_7 p0_8 p0_9 p0_10 p0_11 p0_12 p0_13 p0_14 p0_15 p0_16 p0_17 p0_18 p0_19 (hp0_1.iso prs_ok (by rfl)) (by omega) (hp0_2.iso prs_ok (by rfl)) (by omega) (hp0_3.iso prs_ok (by rfl)) (by omega) (hp0_4.iso prs_ok (by rfl)) (by omega) (hp0_6.iso prs_ok (by rfl)) (by omega) (hp0_7.iso prs_ok (by rfl)) (by omega) hp0_8 (by omega) (hp0_9.iso prs_ok (by rfl)) (by omega) (hp0_11.iso prs_ok (by rfl)) (by omega) (hp0_12.iso prs_ok (by rfl)) (by omega) (hp0_13.iso prs_ok (by rfl)) (by omega) (hp0_14.iso prs_ok (by rfl)) (by omega) hp0_15 (by omega) hp0_16 (by omega) (hp0_18.iso prs_ok (by rfl)) (by omega) (hp0_19.iso prs_ok (by rfl)) (by omega)
    obtain ⟨r0, h1, h2⟩ := same_IsWorld p0_0 p0_1 p0_2 p0_3 p0_4 p0_5 p0_6 p0_7 p0_8 p0_9 p0_10 p0_11 p0_12 p0_13 p0_14 p0_15 p0_16 p0_17 p0_18 p0_19 (hp0_1.iso prs_ok (by rfl)) bp0_1 (hp0_2.iso prs_ok (by rfl)) bp0_2 (hp0_3.iso prs_ok (by rfl)) bp0_3 (hp0_4.iso prs_ok (by rfl)) bp0_4 (hp0_6.iso prs_ok (by rfl)) bp0_6 (hp0_7.iso prs_ok (by rfl)) bp0_7 hp0_8 bp0_8 (hp0_9.iso prs_ok (by rfl)) bp0_9 (hp0_11.iso prs_ok (by rfl)) bp0_11 (hp0_12.iso prs_ok (by rfl)) bp0_12 (hp0_13.iso prs_ok (by rfl)) bp0_13 (hp0_14.iso prs_ok (by rfl)) bp0_14 hp0_15 bp0_15 hp0_16 bp0_16 (hp0_18.iso prs_ok (by rfl)) bp0_18 (hp0_19.iso prs_ok (by rfl)) bp0_19
    simp  [-List.getD_eq_getElem?_getD, Option.bind_some, Ret.u_mk, Ret.m_mk, List.getD_cons_zero, List.getD_cons_succ, U.toInt_int, U.toBool_bool, U.toStr_str, U.toLst_lst, cond_true, cond_false, hto0, heq0, h1, h2]
  · rw [if_neg hc0]; rfl
end Go.Proofs.YteahcmobjegpnaaGreat.Eng
