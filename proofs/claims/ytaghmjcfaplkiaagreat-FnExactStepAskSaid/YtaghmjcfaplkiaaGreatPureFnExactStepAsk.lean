/- StepAsk answers as the reference answers: the pure statement. Written by a program of ours (wip/bin/har2.py) over SameStepAsk. -/
import Derived.Test.YtaghmjcfaplkiaaGreatBase
import Derived.Test.YtaghmjcfaplkiaaGreatSameStepAsk
namespace Go.Proofs.YtaghmjcfaplkiaaGreat.Eng
open Go.RowKit
set_option linter.unusedVariables false
set_option linter.unusedSimpArgs false
set_option maxRecDepth 100000
theorem aaJ (u0 : List U) (W0 : zx Fv.ct (Fv.ct 42) u0) (u1 : List U) (W1 : zx Fv.ct (Fv.ct 3) u1) (u2 : List U) (W2 : zx Fv.ct (Fv.ct 3) u2) (u3 : List U) (W3 : zx Fv.ct (Fv.ct 3) u3) (u4 : List U) (W4 : zx Fv.ct (Fv.ct 69) u4) : dn 4 [vB Fv 42 u0, vB Fv 3 u1, vB Fv 3 u2, vB Fv 3 u3, vB Fv 69 u4] [] = some ⟨[[.bool true]], []⟩ := by
  have g0 := W0
  obtain ⟨Gt, GZ, Hf, Hg, Hh, Hs, GV, GM, Hi, Gv, Hq, HG, Ha, GU, HH, Hb, Hc, Hr, Hd, He, rfl, LV, LX, Nk, Nl, Nn, LA, Np, Jj, Nd, Lz, Nf, Ng, Nh, Ni, LW, Nj⟩ := adS W0
  have YJ : Vg [Gt, Hs, Hq, Hr] := by
    intro n hn
    simp only [List.mem_cons, List.not_mem_nil, or_false] at hn
    rcases hn with hn | hn | hn | hn
    · rw [hn]; exact NO (g0.2 0 _ _ rfl rfl)
    · rw [hn]; exact NO (g0.2 5 _ _ rfl rfl)
    · rw [hn]; exact NO (g0.2 10 _ _ rfl rfl)
    · rw [hn]; exact NO (g0.2 17 _ _ rfl rfl)
  have W1' : zx Fv.ct [.int .i64] u1 := W1
  obtain ⟨v, _, rfl, k, hn⟩ := W1'.cons
  obtain rfl := hn.nil
  obtain ⟨p1, rfl, Vt⟩ := k.nY
  have Vt := UI Vt
  have W2' : zx Fv.ct [.int .i64] u2 := W2
  obtain ⟨v, _, rfl, k, hn⟩ := W2'.cons
  obtain rfl := hn.nil
  obtain ⟨p2, rfl, BN⟩ := k.nY
  have BN := UI BN
  have W3' : zx Fv.ct [.int .i64] u3 := W3
  obtain ⟨v, _, rfl, k, hn⟩ := W3'.cons
  obtain rfl := hn.nil
  obtain ⟨p3, rfl, Vu⟩ := k.nY
  have Vu := UI Vu
  have g4 := W4
  obtain ⟨Hx, Kb, Kc, IH, Hy, Oe, rfl⟩ := adT W4
  have RX : Vg [Hx, Kb, Kc, IH, Hy, Oe] := by
    intro n hn
    simp only [List.mem_cons, List.not_mem_nil, or_false] at hn
    rcases hn with hn | hn | hn | hn | hn | hn
    · rw [hn]; exact NO (g4.2 0 _ _ rfl rfl)
    · rw [hn]; exact NO (g4.2 1 _ _ rfl rfl)
    · rw [hn]; exact NO (g4.2 2 _ _ rfl rfl)
    · rw [hn]; exact NO (g4.2 3 _ _ rfl rfl)
    · rw [hn]; exact NO (g4.2 4 _ _ rfl rfl)
    · rw [hn]; exact NO (g4.2 5 _ _ rfl rfl)
  show We.c Gt GZ Hf Hg Hh Hs GV GM Hi Gv Hq HG Ha GU HH Hb Hc Hr Hd He p1 p2 p3 Hx Kb Kc IH Hy Oe = _
  rw [We.eq]; (try dsimp only [gr, gi, gl, gb, gt, Ft, ln, EK, aJ.i, aJ.l, aJ.b, aJ.t, aJ.ij, aJ.lj, aJ.bj, aJ.tj])
  rw [afn Gt GZ Hf Hg Hh Hs GV GM Hi Gv Hq HG Ha GU HH Hb Hc Hr Hd He LV LX Nk Nl Nn LA Np Jj Nd Lz Nf Ng Nh Ni LW Nj (by omega) (by omega)]
  show (bif decide (Gd ((Fy GZ + (Fy Hf + (Fy Hg + (Fy Hh + (Fy GV + 0))))) + (Fy GM + (Fy Hi + (Fy Gv + (Fy HG + (Fy Ha + (Fy GU + (Fy HH + ((Fy Hb + (Fy Hc + 0)) + (Fy Hd + (Fy He + 0))))))))))) (1048576) < 0) then _ else _) = _
  unfold Gd
  by_cases jz : (((Fy GZ + (Fy Hf + (Fy Hg + (Fy Hh + (Fy GV + 0))))) + (Fy GM + (Fy Hi + (Fy Gv + (Fy HG + (Fy Ha + (Fy GU + (Fy HH + ((Fy Hb + (Fy Hc + 0)) + (Fy Hd + (Fy He + 0)))))))))) : Nat) : Int) ≤ 1048576
  · rw [if_pos jz, Ho (by omega), cond_false]
    have RH : Fy GZ ≤ 1048576 := by omega
    have RP : Fy Hf ≤ 1048576 := by omega
    have RQ : Fy Hg ≤ 1048576 := by omega
    have RR : Fy Hh ≤ 1048576 := by omega
    have RT : Fy GV ≤ 1048576 := by omega
    have Qq : Fy GM ≤ 1048576 := by omega
    have RU : Fy Hi ≤ 1048576 := by omega
    have NU : Fy Gv ≤ 1048576 := by omega
    have Qn : Fy HG ≤ 1048576 := by omega
    have Qo : Fy Ha ≤ 1048576 := by omega
    have RJ : Fy GU ≤ 1048576 := by omega
    have Qp : Fy HH ≤ 1048576 := by omega
    have RK : Fy Hb ≤ 1048576 := by omega
    have RL : Fy Hc ≤ 1048576 := by omega
    have RN : Fy Hd ≤ 1048576 := by omega
    have RO : Fy He ≤ 1048576 := by omega
    have acs := af1 Gt GZ Hf Hg Hh Hs GV GM Hi Gv Hq HG Ha GU HH Hb Hc Hr Hd He LV RH LX RP Nk RQ Nl RR Nn RT LA Qq Np RU Jj NU Nd Qn Lz Qo Nf RJ Ng Qp Nh RK Ni RL LW RN Nj RO
    have acu := Ya Hx Kb Kc IH Hy Oe 
    have acn := YI Gt GZ Hf Hg Hh Hs GV GM Hi Gv Hq HG Ha GU HH Hb Hc Hr Hd He (LV.Ge Gg (by rfl)) (by omega) (LX.Ge Gg (by rfl)) (by omega) (Nk.Ge Gg (by rfl)) (by omega) (Nl.Ge Gg (by rfl)) (by omega) (Nn.Ge Gg (by rfl)) (by omega) (LA.Ge Gg (by rfl)) (by omega) Np (by omega) (Jj.Ge Gg (by rfl)) (by omega) (Nd.Ge Gg (by rfl)) (by omega) (Lz.Ge Gg (by rfl)) (by omega) (Nf.Ge Gg (by rfl)) (by omega) (Ng.Ge Gg (by rfl)) (by omega) Nh (by omega) Ni (by omega) (LW.Ge Gg (by rfl)) (by omega) (Nj.Ge Gg (by rfl)) (by omega)
    have aco := WX Hx Kb Kc IH Hy Oe 
    obtain ⟨Rc, OF, OO, OP, OQ, Rg, OR, OS, OT, OU, Re, OG, OH, OI, OJ, OK, OL, Rf, OM, ON, r1, h1, h2, Vv, aa1, VE, aba, VF, abb, VG, abc, VH, abd, VI, abe, VJ, abf, VK, abg, Vw, aa2, Vx, aa3, Vy, aa4, Vz, aa5, VA, aa6, VB, aa7, VC, aa8, VD, aa9⟩ := aeP Gt GZ Hf Hg Hh Hs GV GM Hi Gv Hq HG Ha GU HH Hb Hc Hr Hd He p1 p2 p3 Hx Kb Kc IH Hy Oe YJ (LV.Ge Gg (by rfl)) RH (LX.Ge Gg (by rfl)) RP (Nk.Ge Gg (by rfl)) RQ (Nl.Ge Gg (by rfl)) RR (Nn.Ge Gg (by rfl)) RT (LA.Ge Gg (by rfl)) Qq Np RU (Jj.Ge Gg (by rfl)) NU (Nd.Ge Gg (by rfl)) Qn (Lz.Ge Gg (by rfl)) Qo (Nf.Ge Gg (by rfl)) RJ (Ng.Ge Gg (by rfl)) Qp Nh RK Ni RL (LW.Ge Gg (by rfl)) RN (Nj.Ge Gg (by rfl)) RO Vt BN Vu RX
    have hB := af8 (T := Fv) (by rfl)
    have agf := ((LV.Ge Gg (by rfl))).GO hB
    have agp := ((LX.Ge Gg (by rfl))).GO hB
    have agq := ((Nk.Ge Gg (by rfl))).GO hB
    have agr := ((Nl.Ge Gg (by rfl))).GO hB
    have ags := ((Nn.Ge Gg (by rfl))).GO hB
    have agt := ((LA.Ge Gg (by rfl))).GO hB
    have agu := (Np).GO hB
    have agv := ((Jj.Ge Gg (by rfl))).GO hB
    have agh := ((Nd.Ge Gg (by rfl))).GO hB
    have agi := ((Lz.Ge Gg (by rfl))).GO hB
    have agj := ((Nf.Ge Gg (by rfl))).GO hB
    have agk := ((Ng.Ge Gg (by rfl))).GO hB
    have agl := (Nh).GO hB
    have agm := (Ni).GO hB
    have agn := ((LW.Ge Gg (by rfl))).GO hB
    have ago := ((Nj.Ge Gg (by rfl))).GO hB
    have agw := (Vv).GO hB
    have agF := (VE).GO hB
    have agG := (VF).GO hB
    have agH := (VG).GO hB
    have agI := (VH).GO hB
    have agJ := (VI).GO hB
    have agK := (VJ).GO hB
    have agL := (VK).GO hB
    have agx := (Vw).GO hB
    have agy := (Vx).GO hB
    have agz := (Vy).GO hB
    have agA := (Vz).GO hB
    have agB := (VA).GO hB
    have agC := (VB).GO hB
    have agD := (VC).GO hB
    have agE := (VD).GO hB
    simp (disch := omega) [-List.getD_eq_getElem?_getD, Option.bind_some, aJ.af3, aJ.adD, List.getD_cons_zero, List.getD_cons_succ, U.toInt_int, U.Fk, U.Fq, U.oI, cond_true, cond_false, acs, acu, acn, aco, YI Rc OF OO OP OQ Rg OR OS OT OU Re OG OH OI OJ OK OL Rf OM ON Vv aa1 VE aba VF abb VG abc VH abd VI abe VJ abf VK abg Vw aa2 Vx aa3 Vy aa4 Vz aa5 VA aa6 VB aa7 VC aa8 VD aa9, h1, h2, Ho, Zr Gt GZ Hf Hg Hh Hs GV GM Hi Gv Hq HG Ha GU HH Hb Hc Hr Hd He (LV.Ge Gg (by rfl)) (LX.Ge Gg (by rfl)) (Nk.Ge Gg (by rfl)) (Nl.Ge Gg (by rfl)) (Nn.Ge Gg (by rfl)) (LA.Ge Gg (by rfl)) Np (Jj.Ge Gg (by rfl)) (Nd.Ge Gg (by rfl)) (Lz.Ge Gg (by rfl)) (Nf.Ge Gg (by rfl)) (Ng.Ge Gg (by rfl)) Nh Ni (LW.Ge Gg (by rfl)) (Nj.Ge Gg (by rfl)), Zr Rc OF OO OP OQ Rg OR OS OT OU Re OG OH OI OJ OK OL Rf OM ON Vv VE VF VG VH VI VJ VK Vw Vx Vy Vz VA VB VC VD, acm Rc OF OO OP OQ Rg OR OS OT OU Re OG OH OI OJ OK OL Rf OM ON Vv VE VF VG VH VI VJ VK Vw Vx Vy Vz VA VB VC VD]
  · rw [if_neg jz]; rfl
end Go.Proofs.YtaghmjcfaplkiaaGreat.Eng
