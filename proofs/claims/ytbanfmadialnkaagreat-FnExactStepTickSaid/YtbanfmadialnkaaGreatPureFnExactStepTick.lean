/- StepTick answers as the reference answers: the pure statement. Written by a program of ours (wip/bin/har2.py) over SameStepTick. -/
import Derived.Test.YtbanfmadialnkaaGreatBase
import Derived.Test.YtbanfmadialnkaaGreatSameStepTick
namespace Go.Proofs.YtbanfmadialnkaaGreat.Eng
open Go.RowKit
set_option linter.unusedVariables false
set_option linter.unusedSimpArgs false
set_option maxRecDepth 100000
theorem VI (u0 : List U) (W0 : xz CZ.ct (CZ.ct 42) u0) (u1 : List U) (W1 : xz CZ.ct (CZ.ct 3) u1) : dn 5 [tG CZ 42 u0, tG CZ 3 u1] [] = some ⟨[[.bool true]], []⟩ := by
  obtain ⟨FF, FG, FO, FP, FQ, Gp, EJ, EN, FR, FU, IK, FH, FI, FJ, FK, FL, FM, IL, FN, Ez, rfl, JI, JL, Kp, Kq, Kr, IC, Ks, JM, Kj, JJ, Kk, Kl, Km, Kn, JK, Ko⟩ := aab W0
  have VJ : xz CZ.ct [.int .i64] u1 := W1
  obtain ⟨v, _, rfl, k, hn⟩ := VJ.cons
  obtain rfl := hn.nil
  obtain ⟨p1, rfl, QK⟩ := k.oO
  have QK := acf QK
  show Rs.c FF FG FO FP FQ Gp EJ EN FR FU IK FH FI FJ FK FL FM IL FN Ez p1 = _
  rw [Rs.eq]; (try dsimp only [gr, gi, gl, gb, gt, CX, ln, Cu, aI.i, aI.l, aI.b, aI.t, aI.ij, aI.lj, aI.bj, aI.tj])
  rw [abv FF FG FO FP FQ Gp EJ EN FR FU IK FH FI FJ FK FL FM IL FN Ez JI JL Kp Kq Kr IC Ks JM Kj JJ Kk Kl Km Kn JK Ko (by omega) (by omega)]
  show (bif decide (DD ((Db FG + (Db FO + (Db FP + (Db FQ + (Db EJ + 0))))) + (Db EN + (Db FR + (Db FU + (Db FH + (Db FI + (Db FJ + (Db FK + ((Db FL + (Db FM + 0)) + (Db FN + (Db Ez + 0))))))))))) (1048576) < 0) then _ else _) = _
  unfold DD
  by_cases uP : (((Db FG + (Db FO + (Db FP + (Db FQ + (Db EJ + 0))))) + (Db EN + (Db FR + (Db FU + (Db FH + (Db FI + (Db FJ + (Db FK + ((Db FL + (Db FM + 0)) + (Db FN + (Db Ez + 0)))))))))) : Nat) : Int) ≤ 1048576
  · rw [if_pos uP, Eo (by omega), cond_false]
    have Nf : Db FG ≤ 1048576 := by omega
    have Nq : Db FO ≤ 1048576 := by omega
    have Nr : Db FP ≤ 1048576 := by omega
    have Ns : Db FQ ≤ 1048576 := by omega
    have Nt : Db EJ ≤ 1048576 := by omega
    have Lt : Db EN ≤ 1048576 := by omega
    have Nu : Db FR ≤ 1048576 := by omega
    have Nv : Db FU ≤ 1048576 := by omega
    have Ng : Db FH ≤ 1048576 := by omega
    have Nh : Db FI ≤ 1048576 := by omega
    have Ni : Db FJ ≤ 1048576 := by omega
    have Nj : Db FK ≤ 1048576 := by omega
    have Nk : Db FL ≤ 1048576 := by omega
    have Nl : Db FM ≤ 1048576 := by omega
    have Nn : Db FN ≤ 1048576 := by omega
    have Np : Db Ez ≤ 1048576 := by omega
    have XY := ab8 FF FG FO FP FQ Gp EJ EN FR FU IK FH FI FJ FK FL FM IL FN Ez JI Nf JL Nq Kp Nr Kq Ns Kr Nt IC Lt Ks Nu JM Nv Kj Ng JJ Nh Kk Ni Kl Nj Km Nk Kn Nl JK Nn Ko Np
    have XU := TW FF FG FO FP FQ Gp EJ EN FR FU IK FH FI FJ FK FL FM IL FN Ez (JI.DF DJ (by rfl)) (by omega) (JL.DF DJ (by rfl)) (by omega) (Kp.DF DJ (by rfl)) (by omega) (Kq.DF DJ (by rfl)) (by omega) (Kr.DF DJ (by rfl)) (by omega) (IC.DF DJ (by rfl)) (by omega) Ks (by omega) (JM.DF DJ (by rfl)) (by omega) (Kj.DF DJ (by rfl)) (by omega) (JJ.DF DJ (by rfl)) (by omega) (Kk.DF DJ (by rfl)) (by omega) (Kl.DF DJ (by rfl)) (by omega) Km (by omega) Kn (by omega) (JK.DF DJ (by rfl)) (by omega) (Ko.DF DJ (by rfl)) (by omega)
    obtain ⟨MD, KV, Le, Lg, Lh, MG, Li, Lj, Lk, Ll, ME, KW, KX, KY, KZ, La, Lb, MF, Lc, Ld, r1, h1, h2, QL, Wo, QU, Wx, QV, Wy, QW, Wz, QX, WA, QY, WB, QZ, WC, Ra, WD, QM, Wp, QN, Wq, QO, Wr, QP, Ws, QQ, Wt, QR, Wu, QS, Wv, QT, Ww⟩ := aaX FF FG FO FP FQ Gp EJ EN FR FU IK FH FI FJ FK FL FM IL FN Ez p1 (JI.DF DJ (by rfl)) Nf (JL.DF DJ (by rfl)) Nq (Kp.DF DJ (by rfl)) Nr (Kq.DF DJ (by rfl)) Ns (Kr.DF DJ (by rfl)) Nt (IC.DF DJ (by rfl)) Lt Ks Nu (JM.DF DJ (by rfl)) Nv (Kj.DF DJ (by rfl)) Ng (JJ.DF DJ (by rfl)) Nh (Kk.DF DJ (by rfl)) Ni (Kl.DF DJ (by rfl)) Nj Km Nk Kn Nl (JK.DF DJ (by rfl)) Nn (Ko.DF DJ (by rfl)) Np QK
    have hB := acg (T := CZ) (by rfl)
    have acp := ((JI.DF DJ (by rfl))).Ek hB
    have acz := ((JL.DF DJ (by rfl))).Ek hB
    have acA := ((Kp.DF DJ (by rfl))).Ek hB
    have acB := ((Kq.DF DJ (by rfl))).Ek hB
    have acC := ((Kr.DF DJ (by rfl))).Ek hB
    have acD := ((IC.DF DJ (by rfl))).Ek hB
    have acE := (Ks).Ek hB
    have acF := ((JM.DF DJ (by rfl))).Ek hB
    have acq := ((Kj.DF DJ (by rfl))).Ek hB
    have acr := ((JJ.DF DJ (by rfl))).Ek hB
    have acs := ((Kk.DF DJ (by rfl))).Ek hB
    have acu := ((Kl.DF DJ (by rfl))).Ek hB
    have acv := (Km).Ek hB
    have acw := (Kn).Ek hB
    have acx := ((JK.DF DJ (by rfl))).Ek hB
    have acy := ((Ko.DF DJ (by rfl))).Ek hB
    have acG := (QL).Ek hB
    have acP := (QU).Ek hB
    have acQ := (QV).Ek hB
    have acR := (QW).Ek hB
    have acS := (QX).Ek hB
    have acT := (QY).Ek hB
    have acU := (QZ).Ek hB
    have acV := (Ra).Ek hB
    have acH := (QM).Ek hB
    have acI := (QN).Ek hB
    have acJ := (QO).Ek hB
    have acK := (QP).Ek hB
    have acL := (QQ).Ek hB
    have acM := (QR).Ek hB
    have acN := (QS).Ek hB
    have acO := (QT).Ek hB
    simp (disch := omega) [-List.getD_eq_getElem?_getD, Option.bind_some, aI.aca, aI.Zy, List.getD_cons_zero, List.getD_cons_succ, U.toInt_int, U.CS, U.CV, U.nn, cond_true, cond_false, XY, XU, TW MD KV Le Lg Lh MG Li Lj Lk Ll ME KW KX KY KZ La Lb MF Lc Ld QL Wo QU Wx QV Wy QW Wz QX WA QY WB QZ WC Ra WD QM Wp QN Wq QO Wr QP Ws QQ Wt QR Wu QS Wv QT Ww, h1, h2, Eo, Uw FF FG FO FP FQ Gp EJ EN FR FU IK FH FI FJ FK FL FM IL FN Ez (JI.DF DJ (by rfl)) (JL.DF DJ (by rfl)) (Kp.DF DJ (by rfl)) (Kq.DF DJ (by rfl)) (Kr.DF DJ (by rfl)) (IC.DF DJ (by rfl)) Ks (JM.DF DJ (by rfl)) (Kj.DF DJ (by rfl)) (JJ.DF DJ (by rfl)) (Kk.DF DJ (by rfl)) (Kl.DF DJ (by rfl)) Km Kn (JK.DF DJ (by rfl)) (Ko.DF DJ (by rfl)), Uw MD KV Le Lg Lh MG Li Lj Lk Ll ME KW KX KY KZ La Lb MF Lc Ld QL QU QV QW QX QY QZ Ra QM QN QO QP QQ QR QS QT, XT MD KV Le Lg Lh MG Li Lj Lk Ll ME KW KX KY KZ La Lb MF Lc Ld QL QU QV QW QX QY QZ Ra QM QN QO QP QQ QR QS QT]
  · rw [if_neg uP]; rfl
end Go.Proofs.YtbanfmadialnkaaGreat.Eng
