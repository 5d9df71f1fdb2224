/- StepCase answers as the reference answers: the pure statement. Written by a program of ours (wip/bin/har2.py) over SameStepCase. -/
import Derived.Test.YtaghmjcfaplkiaaGreatBase
import Derived.Test.YtaghmjcfaplkiaaGreatSameStepCase
namespace Go.Proofs.YtaghmjcfaplkiaaGreat.Eng
open Go.RowKit
set_option linter.unusedVariables false
set_option linter.unusedSimpArgs false
set_option maxRecDepth 100000
theorem Uq (u0 : List U) (W0 : zx Fw.ct (Fw.ct 42) u0) (u1 : List U) (W1 : zx Fw.ct (Fw.ct 3) u1) (u2 : List U) (W2 : zx Fw.ct (Fw.ct 3) u2) (u3 : List U) (W3 : zx Fw.ct (Fw.ct 3) u3) : dn 3 [vB Fw 42 u0, vB Fw 3 u1, vB Fw 3 u2, vB Fw 3 u3] [] = some ⟨[[.bool true]], []⟩ := by
  obtain ⟨GK, GM, GS, GU, GV, Hw, GW, Gz, GX, GF, Hv, GN, GO, GP, GQ, GC, GD, GL, Gg, GR, rfl, Ka, Kc, KC, KD, KE, Jm, KF, HU, Kw, Kb, Kx, Ky, Kz, KA, Jl, KB⟩ := XT W0
  have Ur : zx Fw.ct [.int .i64] u1 := W1
  obtain ⟨v, _, rfl, k, hn⟩ := Ur.cons
  obtain rfl := hn.nil
  obtain ⟨p1, rfl, QL⟩ := k.nY
  have QL := Ru QL
  have Us : zx Fw.ct [.int .i64] u2 := W2
  obtain ⟨v, _, rfl, k, hn⟩ := Us.cons
  obtain rfl := hn.nil
  obtain ⟨p2, rfl, BN⟩ := k.nY
  have BN := Ru BN
  have Ut : zx Fw.ct [.int .i64] u3 := W3
  obtain ⟨v, _, rfl, k, hn⟩ := Ut.cons
  obtain rfl := hn.nil
  obtain ⟨p3, rfl, MQ⟩ := k.nY
  have MQ := Ru MQ
  show Ri.c GK GM GS GU GV Hw GW Gz GX GF Hv GN GO GP GQ GC GD GL Gg GR p1 p2 p3 = _
  rw [Ri.eq]; (try dsimp only [gr, gi, gl, gb, gt, Ft, ln, EK, aJ.i, aJ.l, aJ.b, aJ.t, aJ.ij, aJ.lj, aJ.bj, aJ.tj])
  rw [YV GK GM GS GU GV Hw GW Gz GX GF Hv GN GO GP GQ GC GD GL Gg GR Ka Kc KC KD KE Jm KF HU Kw Kb Kx Ky Kz KA Jl KB (by omega) (by omega)]
  show (bif decide (FY ((Fx GM + (Fx GS + (Fx GU + (Fx GV + (Fx GW + 0))))) + (Fx Gz + (Fx GX + (Fx GF + (Fx GN + (Fx GO + (Fx GP + (Fx GQ + ((Fx GC + (Fx GD + 0)) + (Fx Gg + (Fx GR + 0))))))))))) (1048576) < 0) then _ else _) = _
  unfold FY
  by_cases jz : (((Fx GM + (Fx GS + (Fx GU + (Fx GV + (Fx GW + 0))))) + (Fx Gz + (Fx GX + (Fx GF + (Fx GN + (Fx GO + (Fx GP + (Fx GQ + ((Fx GC + (Fx GD + 0)) + (Fx Gg + (Fx GR + 0)))))))))) : Nat) : Int) ≤ 1048576
  · rw [if_pos jz, GY (by omega), cond_false]
    have NB : Fx GM ≤ 1048576 := by omega
    have NK : Fx GS ≤ 1048576 := by omega
    have NL : Fx GU ≤ 1048576 := by omega
    have NM : Fx GV ≤ 1048576 := by omega
    have NN : Fx GW ≤ 1048576 := by omega
    have NO : Fx Gz ≤ 1048576 := by omega
    have NP : Fx GX ≤ 1048576 := by omega
    have LQ : Fx GF ≤ 1048576 := by omega
    have NC : Fx GN ≤ 1048576 := by omega
    have ND : Fx GO ≤ 1048576 := by omega
    have NF : Fx GP ≤ 1048576 := by omega
    have NG : Fx GQ ≤ 1048576 := by omega
    have NH : Fx GC ≤ 1048576 := by omega
    have NI : Fx GD ≤ 1048576 := by omega
    have MK : Fx Gg ≤ 1048576 := by omega
    have NJ : Fx GR ≤ 1048576 := by omega
    have Wx := ZH GK GM GS GU GV Hw GW Gz GX GF Hv GN GO GP GQ GC GD GL Gg GR Ka NB Kc NK KC NL KD NM KE NN Jm NO KF NP HU LQ Kw NC Kb ND Kx NF Ky NG Kz NH KA NI Jl MK KB NJ
    have Wt := Tg GK GM GS GU GV Hw GW Gz GX GF Hv GN GO GP GQ GC GD GL Gg GR (Ka.FZ Ga (by rfl)) (by omega) (Kc.FZ Ga (by rfl)) (by omega) (KC.FZ Ga (by rfl)) (by omega) (KD.FZ Ga (by rfl)) (by omega) (KE.FZ Ga (by rfl)) (by omega) (Jm.FZ Ga (by rfl)) (by omega) KF (by omega) (HU.FZ Ga (by rfl)) (by omega) (Kw.FZ Ga (by rfl)) (by omega) (Kb.FZ Ga (by rfl)) (by omega) (Kx.FZ Ga (by rfl)) (by omega) (Ky.FZ Ga (by rfl)) (by omega) Kz (by omega) KA (by omega) (Jl.FZ Ga (by rfl)) (by omega) (KB.FZ Ga (by rfl)) (by omega)
    obtain ⟨Ni, Mc, Mm, Mn, Mo, Nl, Mp, Mq, Mr, Ms, Nj, Md, Me, Mf, Mg, Mh, Mi, Nk, Mj, Ml, r1, h1, h2, QM, UU, QV, Ve, QW, Vf, QX, Vg, QY, Vh, QZ, Vi, Ra, Vj, Rb, Vk, QN, UW, QO, UX, QP, UY, QQ, UZ, QR, Va, QS, Vb, QT, Vc, QU, Vd⟩ := Yr GK GM GS GU GV Hw GW Gz GX GF Hv GN GO GP GQ GC GD GL Gg GR p1 p2 p3 (Ka.FZ Ga (by rfl)) NB (Kc.FZ Ga (by rfl)) NK (KC.FZ Ga (by rfl)) NL (KD.FZ Ga (by rfl)) NM (KE.FZ Ga (by rfl)) NN (Jm.FZ Ga (by rfl)) NO KF NP (HU.FZ Ga (by rfl)) LQ (Kw.FZ Ga (by rfl)) NC (Kb.FZ Ga (by rfl)) ND (Kx.FZ Ga (by rfl)) NF (Ky.FZ Ga (by rfl)) NG Kz NH KA NI (Jl.FZ Ga (by rfl)) MK (KB.FZ Ga (by rfl)) NJ QL BN MQ
    have hB := ZS (T := Fw) (by rfl)
    have aac := ((Ka.FZ Ga (by rfl))).GB hB
    have aal := ((Kc.FZ Ga (by rfl))).GB hB
    have aam := ((KC.FZ Ga (by rfl))).GB hB
    have aan := ((KD.FZ Ga (by rfl))).GB hB
    have aao := ((KE.FZ Ga (by rfl))).GB hB
    have aap := ((Jm.FZ Ga (by rfl))).GB hB
    have aaq := (KF).GB hB
    have aar := ((HU.FZ Ga (by rfl))).GB hB
    have aad := ((Kw.FZ Ga (by rfl))).GB hB
    have aae := ((Kb.FZ Ga (by rfl))).GB hB
    have aaf := ((Kx.FZ Ga (by rfl))).GB hB
    have aag := ((Ky.FZ Ga (by rfl))).GB hB
    have aah := (Kz).GB hB
    have aai := (KA).GB hB
    have aaj := ((Jl.FZ Ga (by rfl))).GB hB
    have aak := ((KB.FZ Ga (by rfl))).GB hB
    have aas := (QM).GB hB
    have aaB := (QV).GB hB
    have aaC := (QW).GB hB
    have aaD := (QX).GB hB
    have aaE := (QY).GB hB
    have aaF := (QZ).GB hB
    have aaG := (Ra).GB hB
    have aaH := (Rb).GB hB
    have aat := (QN).GB hB
    have aau := (QO).GB hB
    have aav := (QP).GB hB
    have aaw := (QQ).GB hB
    have aax := (QR).GB hB
    have aay := (QS).GB hB
    have aaz := (QT).GB hB
    have aaA := (QU).GB hB
    simp (disch := omega) [-List.getD_eq_getElem?_getD, Option.bind_some, aJ.ZJ, aJ.XI, List.getD_cons_zero, List.getD_cons_succ, U.toInt_int, U.Fk, U.Fq, U.oI, cond_true, cond_false, Wx, Wt, Tg Ni Mc Mm Mn Mo Nl Mp Mq Mr Ms Nj Md Me Mf Mg Mh Mi Nk Mj Ml QM UU QV Ve QW Vf QX Vg QY Vh QZ Vi Ra Vj Rb Vk QN UW QO UX QP UY QQ UZ QR Va QS Vb QT Vc QU Vd, h1, h2, GY, Ty GK GM GS GU GV Hw GW Gz GX GF Hv GN GO GP GQ GC GD GL Gg GR (Ka.FZ Ga (by rfl)) (Kc.FZ Ga (by rfl)) (KC.FZ Ga (by rfl)) (KD.FZ Ga (by rfl)) (KE.FZ Ga (by rfl)) (Jm.FZ Ga (by rfl)) KF (HU.FZ Ga (by rfl)) (Kw.FZ Ga (by rfl)) (Kb.FZ Ga (by rfl)) (Kx.FZ Ga (by rfl)) (Ky.FZ Ga (by rfl)) Kz KA (Jl.FZ Ga (by rfl)) (KB.FZ Ga (by rfl)), Ty Ni Mc Mm Mn Mo Nl Mp Mq Mr Ms Nj Md Me Mf Mg Mh Mi Nk Mj Ml QM QV QW QX QY QZ Ra Rb QN QO QP QQ QR QS QT QU, Ws Ni Mc Mm Mn Mo Nl Mp Mq Mr Ms Nj Md Me Mf Mg Mh Mi Nk Mj Ml QM QV QW QX QY QZ Ra Rb QN QO QP QQ QR QS QT QU]
  · rw [if_neg jz]; rfl
end Go.Proofs.YtaghmjcfaplkiaaGreat.Eng
