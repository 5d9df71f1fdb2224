/- FaultOf answers as the reference answers: the pure statement. Written by a program of ours (wip/bin/har2.py) over SameFaultOf. -/
import Derived.Test.YtbanfmadialnkaaGreatBase
import Derived.Test.YtbanfmadialnkaaGreatSameFaultOf
namespace Go.Proofs.YtbanfmadialnkaaGreat.Eng
open Go.RowKit
set_option linter.unusedVariables false
set_option linter.unusedSimpArgs false
set_option maxRecDepth 100000
theorem Mz (u0 : List U) (W0 : bG ao.ct (ao.ct 42) u0) : dn 3 [Dj ao 42 u0] [] = some ⟨[[.bool true]], []⟩ := by
  obtain ⟨oh, jR, jS, jT, jU, oi, jV, jW, jX, jY, om, jZ, ka, kb, kc, kd, ke, oo, kf, kg, rfl, vO, vP, vQ, vR, vS, tp, vT, tq, vU, vV, vW, vX, vY, vZ, tr, v7⟩ := MT W0
  show Az.c oh jR jS jT jU oi jV jW jX jY om jZ ka kb kc kd ke oo kf kg = _
  rw [Az.eq]; (try dsimp only [gr, gi, gl, gb, gt, ab, ln, ae, aa.i, aa.l, aa.b, aa.t, aa.ij, aa.lj, aa.bj, aa.tj])
  rw [MU oh jR jS jT jU oi jV jW jX jY om jZ ka kb kc kd ke oo kf kg vO vP vQ vR vS tp vT tq vU vV vW vX vY vZ tr v7 (by omega) (by omega)]
  show (bif decide (bO ((ai jR + (ai jS + (ai jT + (ai jU + (ai jV + 0))))) + (ai jW + (ai jX + (ai jY + (ai jZ + (ai ka + (ai kb + (ai kc + ((ai kd + (ai ke + 0)) + (ai kf + (ai kg + 0))))))))))) (1048576) < 0) then _ else _) = _
  unfold bO
  by_cases gK : (((ai jR + (ai jS + (ai jT + (ai jU + (ai jV + 0))))) + (ai jW + (ai jX + (ai jY + (ai jZ + (ai ka + (ai kb + (ai kc + ((ai kd + (ai ke + 0)) + (ai kf + (ai kg + 0)))))))))) : Nat) : Int) ≤ 1048576
  · rw [if_pos gK, MV (by omega), cond_false]
    have AA : ai jR ≤ 1048576 := by omega
    have AB : ai jS ≤ 1048576 := by omega
    have AD : ai jT ≤ 1048576 := by omega
    have AE : ai jU ≤ 1048576 := by omega
    have AF : ai jV ≤ 1048576 := by omega
    have AG : ai jW ≤ 1048576 := by omega
    have Dk : ai jX ≤ 1048576 := by omega
    have AH : ai jY ≤ 1048576 := by omega
    have AI : ai jZ ≤ 1048576 := by omega
    have AJ : ai ka ≤ 1048576 := by omega
    have AK : ai kb ≤ 1048576 := by omega
    have AL : ai kc ≤ 1048576 := by omega
    have AM : ai kd ≤ 1048576 := by omega
    have AN : ai ke ≤ 1048576 := by omega
    have AO : ai kf ≤ 1048576 := by omega
    have AP : ai kg ≤ 1048576 := by omega
    have MW := MX oh jR jS jT jU oi jV jW jX jY om jZ ka kb kc kd ke oo kf kg vO AA vP AB vQ AD vR AE vS AF tp AG vT Dk tq AH vU AI vV AJ vW AK vX AL vY AM vZ AN tr AO v7 AP
    have MY := MZ oh jR jS jT jU oi jV jW jX jY om jZ ka kb kc kd ke oo kf kg (vO.dy dU (by rfl)) (by omega) (vP.dy dU (by rfl)) (by omega) (vQ.dy dU (by rfl)) (by omega) (vR.dy dU (by rfl)) (by omega) (vS.dy dU (by rfl)) (by omega) (tp.dy dU (by rfl)) (by omega) vT (by omega) (tq.dy dU (by rfl)) (by omega) (vU.dy dU (by rfl)) (by omega) (vV.dy dU (by rfl)) (by omega) (vW.dy dU (by rfl)) (by omega) (vX.dy dU (by rfl)) (by omega) vY (by omega) vZ (by omega) (tr.dy dU (by rfl)) (by omega) (v7.dy dU (by rfl)) (by omega)
    obtain ⟨r0, h1, h2⟩ := M0 oh jR jS jT jU oi jV jW jX jY om jZ ka kb kc kd ke oo kf kg (vO.dy dU (by rfl)) AA (vP.dy dU (by rfl)) AB (vQ.dy dU (by rfl)) AD (vR.dy dU (by rfl)) AE (vS.dy dU (by rfl)) AF (tp.dy dU (by rfl)) AG vT Dk (tq.dy dU (by rfl)) AH (vU.dy dU (by rfl)) AI (vV.dy dU (by rfl)) AJ (vW.dy dU (by rfl)) AK (vX.dy dU (by rfl)) AL vY AM vZ AN (tr.dy dU (by rfl)) AO (v7.dy dU (by rfl)) AP
    simp  [-List.getD_eq_getElem?_getD, Option.bind_some, aa.tt, aa.M1, List.getD_cons_zero, List.getD_cons_succ, U.toInt_int, U.kh, U.ot, U.ji, cond_true, cond_false, MW, MY, h1, h2]
  · rw [if_neg gK]; rfl
end Go.Proofs.YtbanfmadialnkaaGreat.Eng
