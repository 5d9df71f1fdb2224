/- StepSession answers as the reference answers: the pure statement. Written by a program of ours (wip/bin/har2.py) over SameStepSession. -/
import Derived.Test.YtbanfmadialnkaaGreatBase
import Derived.Test.YtbanfmadialnkaaGreatSameStepSession
namespace Go.Proofs.YtbanfmadialnkaaGreat.Eng
open Go.RowKit
set_option linter.unusedVariables false
set_option linter.unusedSimpArgs false
set_option maxRecDepth 100000
theorem VS (u0 : List U) (W0 : xz CZ.ct (CZ.ct 42) u0) (u1 : List U) (W1 : xz CZ.ct (CZ.ct 3) u1) (u2 : List U) (W2 : xz CZ.ct (CZ.ct 3) u2) (u3 : List U) (W3 : xz CZ.ct (CZ.ct 72) u3) : dn 6 [tG CZ 42 u0, tG CZ 3 u1, tG CZ 3 u2, tG CZ 72 u3] [] = some ⟨[[.bool true]], []⟩ := by
  obtain ⟨FY, Fh, FI, FJ, FK, FZ, Dv, Dt, FL, FM, Iy, FB, FC, FD, FE, FF, FG, Iz, FH, EF, rfl, JW, JZ, KK, KL, Ku, It, KM, Ka, KE, JX, KF, KG, KH, KI, JY, KJ⟩ := aai W0
  have VT : xz CZ.ct [.int .i64] u1 := W1
  obtain ⟨v, _, rfl, k, hn⟩ := VT.cons
  obtain rfl := hn.nil
  obtain ⟨p1, rfl, Rb⟩ := k.oO
  have Rb := TH Rb
  have VU : xz CZ.ct [.int .i64] u2 := W2
  obtain ⟨v, _, rfl, k, hn⟩ := VU.cons
  obtain rfl := hn.nil
  obtain ⟨p2, rfl, Rc⟩ := k.oO
  have Rc := TH Rc
  obtain ⟨Kg, Kh, Ki, Kj, Kk, Mc, rfl⟩ := aaj W3
  show RN.c FY Fh FI FJ FK FZ Dv Dt FL FM Iy FB FC FD FE FF FG Iz FH EF p1 p2 Kg Kh Ki Kj Kk Mc = _
  rw [RN.eq]; (try dsimp only [gr, gi, gl, gb, gt, CX, ln, Cu, aI.i, aI.l, aI.b, aI.t, aI.ij, aI.lj, aI.bj, aI.tj])
  rw [abE FY Fh FI FJ FK FZ Dv Dt FL FM Iy FB FC FD FE FF FG Iz FH EF JW JZ KK KL Ku It KM Ka KE JX KF KG KH KI JY KJ (by omega) (by omega)]
  show (bif decide (DG ((Db Fh + (Db FI + (Db FJ + (Db FK + (Db Dv + 0))))) + (Db Dt + (Db FL + (Db FM + (Db FB + (Db FC + (Db FD + (Db FE + ((Db FF + (Db FG + 0)) + (Db FH + (Db EF + 0))))))))))) (1048576) < 0) then _ else _) = _
  unfold DG
  by_cases uP : (((Db Fh + (Db FI + (Db FJ + (Db FK + (Db Dv + 0))))) + (Db Dt + (Db FL + (Db FM + (Db FB + (Db FC + (Db FD + (Db FE + ((Db FF + (Db FG + 0)) + (Db FH + (Db EF + 0)))))))))) : Nat) : Int) ≤ 1048576
  · rw [if_pos uP, ED (by omega), cond_false]
    have Nu : Db Fh ≤ 1048576 := by omega
    have ND : Db FI ≤ 1048576 := by omega
    have NF : Db FJ ≤ 1048576 := by omega
    have NG : Db FK ≤ 1048576 := by omega
    have NH : Db Dv ≤ 1048576 := by omega
    have LM : Db Dt ≤ 1048576 := by omega
    have NI : Db FL ≤ 1048576 := by omega
    have NJ : Db FM ≤ 1048576 := by omega
    have Nv : Db FB ≤ 1048576 := by omega
    have Nw : Db FC ≤ 1048576 := by omega
    have Nx : Db FD ≤ 1048576 := by omega
    have Ny : Db FE ≤ 1048576 := by omega
    have Nz : Db FF ≤ 1048576 := by omega
    have NA : Db FG ≤ 1048576 := by omega
    have NB : Db FH ≤ 1048576 := by omega
    have NC : Db EF ≤ 1048576 := by omega
    have Yq := acj FY Fh FI FJ FK FZ Dv Dt FL FM Iy FB FC FD FE FF FG Iz FH EF JW Nu JZ ND KK NF KL NG Ku NH It LM KM NI Ka NJ KE Nv JX Nw KF Nx KG Ny KH Nz KI NA JY NB KJ NC
    have Yr := TG Kg Kh Ki Kj Kk Mc 
    have Yk := Uf FY Fh FI FJ FK FZ Dv Dt FL FM Iy FB FC FD FE FF FG Iz FH EF (JW.DI DK (by rfl)) (by omega) (JZ.DI DK (by rfl)) (by omega) (KK.DI DK (by rfl)) (by omega) (KL.DI DK (by rfl)) (by omega) (Ku.DI DK (by rfl)) (by omega) (It.DI DK (by rfl)) (by omega) KM (by omega) (Ka.DI DK (by rfl)) (by omega) (KE.DI DK (by rfl)) (by omega) (JX.DI DK (by rfl)) (by omega) (KF.DI DK (by rfl)) (by omega) (KG.DI DK (by rfl)) (by omega) KH (by omega) KI (by omega) (JY.DI DK (by rfl)) (by omega) (KJ.DI DK (by rfl)) (by omega)
    have Yl := SG Kg Kh Ki Kj Kk Mc 
    obtain ⟨MV, Lj, Ls, Lt, Lu, MY, Lv, Lw, Lx, Ly, MW, Lk, Ll, Lm, Ln, Lo, Lp, MX, Lq, Lr, r1, h1, h2, Re, WA, Rn, WK, Ro, WL, Rp, WM, Rq, WN, Rs, WO, Rt, WQ, Ru, WS, Rf, WB, Rg, WC, Rh, WD, Ri, WE, Rj, WG, Rk, WH, Rl, WI, Rm, WJ⟩ := aa6 FY Fh FI FJ FK FZ Dv Dt FL FM Iy FB FC FD FE FF FG Iz FH EF p1 p2 Kg Kh Ki Kj Kk Mc (JW.DI DK (by rfl)) Nu (JZ.DI DK (by rfl)) ND (KK.DI DK (by rfl)) NF (KL.DI DK (by rfl)) NG (Ku.DI DK (by rfl)) NH (It.DI DK (by rfl)) LM KM NI (Ka.DI DK (by rfl)) NJ (KE.DI DK (by rfl)) Nv (JX.DI DK (by rfl)) Nw (KF.DI DK (by rfl)) Nx (KG.DI DK (by rfl)) Ny KH Nz KI NA (JY.DI DK (by rfl)) NB (KJ.DI DK (by rfl)) NC Rb Rc
    have hB := acr (T := CZ) (by rfl)
    have acz := ((JW.DI DK (by rfl))).Em hB
    have acI := ((JZ.DI DK (by rfl))).Em hB
    have acJ := ((KK.DI DK (by rfl))).Em hB
    have acK := ((KL.DI DK (by rfl))).Em hB
    have acL := ((Ku.DI DK (by rfl))).Em hB
    have acM := ((It.DI DK (by rfl))).Em hB
    have acN := (KM).Em hB
    have acO := ((Ka.DI DK (by rfl))).Em hB
    have acA := ((KE.DI DK (by rfl))).Em hB
    have acB := ((JX.DI DK (by rfl))).Em hB
    have acC := ((KF.DI DK (by rfl))).Em hB
    have acD := ((KG.DI DK (by rfl))).Em hB
    have acE := (KH).Em hB
    have acF := (KI).Em hB
    have acG := ((JY.DI DK (by rfl))).Em hB
    have acH := ((KJ.DI DK (by rfl))).Em hB
    have acP := (Re).Em hB
    have acY := (Rn).Em hB
    have acZ := (Ro).Em hB
    have ac0 := (Rp).Em hB
    have ac1 := (Rq).Em hB
    have ac2 := (Rs).Em hB
    have ac3 := (Rt).Em hB
    have ac4 := (Ru).Em hB
    have acQ := (Rf).Em hB
    have acR := (Rg).Em hB
    have acS := (Rh).Em hB
    have acT := (Ri).Em hB
    have acU := (Rj).Em hB
    have acV := (Rk).Em hB
    have acW := (Rl).Em hB
    have acX := (Rm).Em hB
    simp (disch := omega) [-List.getD_eq_getElem?_getD, Option.bind_some, aI.acm, aI.ZU, List.getD_cons_zero, List.getD_cons_succ, U.toInt_int, U.CS, U.CV, U.nn, cond_true, cond_false, Yq, Yr, Yk, Yl, Uf MV Lj Ls Lt Lu MY Lv Lw Lx Ly MW Lk Ll Lm Ln Lo Lp MX Lq Lr Re WA Rn WK Ro WL Rp WM Rq WN Rs WO Rt WQ Ru WS Rf WB Rg WC Rh WD Ri WE Rj WG Rk WH Rl WI Rm WJ, h1, h2, ED, UG FY Fh FI FJ FK FZ Dv Dt FL FM Iy FB FC FD FE FF FG Iz FH EF (JW.DI DK (by rfl)) (JZ.DI DK (by rfl)) (KK.DI DK (by rfl)) (KL.DI DK (by rfl)) (Ku.DI DK (by rfl)) (It.DI DK (by rfl)) KM (Ka.DI DK (by rfl)) (KE.DI DK (by rfl)) (JX.DI DK (by rfl)) (KF.DI DK (by rfl)) (KG.DI DK (by rfl)) KH KI (JY.DI DK (by rfl)) (KJ.DI DK (by rfl)), UG MV Lj Ls Lt Lu MY Lv Lw Lx Ly MW Lk Ll Lm Ln Lo Lp MX Lq Lr Re Rn Ro Rp Rq Rs Rt Ru Rf Rg Rh Ri Rj Rk Rl Rm, Yj MV Lj Ls Lt Lu MY Lv Lw Lx Ly MW Lk Ll Lm Ln Lo Lp MX Lq Lr Re Rn Ro Rp Rq Rs Rt Ru Rf Rg Rh Ri Rj Rk Rl Rm]
  · rw [if_neg uP]; rfl
end Go.Proofs.YtbanfmadialnkaaGreat.Eng
