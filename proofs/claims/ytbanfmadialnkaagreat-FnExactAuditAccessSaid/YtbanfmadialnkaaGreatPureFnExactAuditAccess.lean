/- AuditAccess answers as the reference answers: the pure statement. Written by a program of ours (wip/bin/har2.py) over SameAuditAccess. -/
import Derived.Test.YtbanfmadialnkaaGreatBase
import Derived.Test.YtbanfmadialnkaaGreatSameAuditAccess
namespace Go.Proofs.YtbanfmadialnkaaGreat.Eng
open Go.RowKit
set_option linter.unusedVariables false
set_option linter.unusedSimpArgs false
set_option maxRecDepth 100000
theorem Vn (u0 : List U) (W0 : xz Db.ct (Db.ct 42) u0) : dn 4 [tG Db 42 u0] [] = some ⟨[[.bool true]], []⟩ := by
  obtain ⟨JM, HC, HL, HM, HN, JP, HO, HP, HQ, HR, JN, HD, HE, HF, HG, HH, HI, JO, HJ, HK, rfl, Mm, Mu, Mw, Mx, My, Li, Mz, Lj, Mn, Mo, Mp, Mq, Mr, Ms, Lh, Mt⟩ := ZQ W0
  show Qz.c JM HC HL HM HN JP HO HP HQ HR JN HD HE HF HG HH HI JO HJ HK = _
  rw [Qz.eq]; (try dsimp only [gr, gi, gl, gb, gt, CX, ln, Cu, aI.i, aI.l, aI.b, aI.t, aI.ij, aI.lj, aI.bj, aI.tj])
  rw [abw JM HC HL HM HN JP HO HP HQ HR JN HD HE HF HG HH HI JO HJ HK Mm Mu Mw Mx My Li Mz Lj Mn Mo Mp Mq Mr Ms Lh Mt (by omega) (by omega)]
  show (bif decide (DH ((Da HC + (Da HL + (Da HM + (Da HN + (Da HO + 0))))) + (Da HP + (Da HQ + (Da HR + (Da HD + (Da HE + (Da HF + (Da HG + ((Da HH + (Da HI + 0)) + (Da HJ + (Da HK + 0))))))))))) (1048576) < 0) then _ else _) = _
  unfold DH
  by_cases uP : (((Da HC + (Da HL + (Da HM + (Da HN + (Da HO + 0))))) + (Da HP + (Da HQ + (Da HR + (Da HD + (Da HE + (Da HF + (Da HG + ((Da HH + (Da HI + 0)) + (Da HJ + (Da HK + 0)))))))))) : Nat) : Int) ≤ 1048576
  · rw [if_pos uP, VQ (by omega), cond_false]
    have Py : Da HC ≤ 1048576 := by omega
    have PI : Da HL ≤ 1048576 := by omega
    have PJ : Da HM ≤ 1048576 := by omega
    have PK : Da HN ≤ 1048576 := by omega
    have PO : Da HO ≤ 1048576 := by omega
    have PQ : Da HP ≤ 1048576 := by omega
    have Rp : Da HQ ≤ 1048576 := by omega
    have PR : Da HR ≤ 1048576 := by omega
    have Pz : Da HD ≤ 1048576 := by omega
    have PA : Da HE ≤ 1048576 := by omega
    have PB : Da HF ≤ 1048576 := by omega
    have PC : Da HG ≤ 1048576 := by omega
    have PD : Da HH ≤ 1048576 := by omega
    have PE : Da HI ≤ 1048576 := by omega
    have PF : Da HJ ≤ 1048576 := by omega
    have PH : Da HK ≤ 1048576 := by omega
    have Xm := ab9 JM HC HL HM HN JP HO HP HQ HR JN HD HE HF HG HH HI JO HJ HK Mm Py Mu PI Mw PJ Mx PK My PO Li PQ Mz Rp Lj PR Mn Pz Mo PA Mp PB Mq PC Mr PD Ms PE Lh PF Mt PH
    have Xe := WD JM HC HL HM HN JP HO HP HQ HR JN HD HE HF HG HH HI JO HJ HK (Mm.Em Ew (by rfl)) (by omega) (Mu.Em Ew (by rfl)) (by omega) (Mw.Em Ew (by rfl)) (by omega) (Mx.Em Ew (by rfl)) (by omega) (My.Em Ew (by rfl)) (by omega) (Li.Em Ew (by rfl)) (by omega) Mz (by omega) (Lj.Em Ew (by rfl)) (by omega) (Mn.Em Ew (by rfl)) (by omega) (Mo.Em Ew (by rfl)) (by omega) (Mp.Em Ew (by rfl)) (by omega) (Mq.Em Ew (by rfl)) (by omega) Mr (by omega) Ms (by omega) (Lh.Em Ew (by rfl)) (by omega) (Mt.Em Ew (by rfl)) (by omega)
    obtain ⟨r0, h1, h2⟩ := aaW JM HC HL HM HN JP HO HP HQ HR JN HD HE HF HG HH HI JO HJ HK (Mm.Em Ew (by rfl)) Py (Mu.Em Ew (by rfl)) PI (Mw.Em Ew (by rfl)) PJ (Mx.Em Ew (by rfl)) PK (My.Em Ew (by rfl)) PO (Li.Em Ew (by rfl)) PQ Mz Rp (Lj.Em Ew (by rfl)) PR (Mn.Em Ew (by rfl)) Pz (Mo.Em Ew (by rfl)) PA (Mp.Em Ew (by rfl)) PB (Mq.Em Ew (by rfl)) PC Mr PD Ms PE (Lh.Em Ew (by rfl)) PF (Mt.Em Ew (by rfl)) PH
    simp  [-List.getD_eq_getElem?_getD, Option.bind_some, aI.LW, aI.YU, List.getD_cons_zero, List.getD_cons_succ, U.toInt_int, U.CS, U.CV, U.nn, cond_true, cond_false, Xm, Xe, h1, h2]
  · rw [if_neg uP]; rfl
end Go.Proofs.YtbanfmadialnkaaGreat.Eng
