/- AuditAccess: the reference and the program give the same. -/
import Derived.Test.YtbanfmadialnkaaGreatH
import Derived.Test.YtbanfmadialnkaaGreatPX4
namespace Go.Proofs.YtbanfmadialnkaaGreat.Eng
open Go.RowKit
set_option linter.unusedVariables false
set_option linter.unusedSimpArgs false
set_option linter.unusedSectionVars false
set_option maxRecDepth 100000
variable [Sm]
theorem aaW (JM : Int) (HC : List (List U)) (HL : List (List U)) (HM : List (List U)) (HN : List (List U)) (JP : Int) (HO : List (List U)) (HP : List (List U)) (HQ : List (List U)) (HR : List (List U)) (JN : Int) (HD : List (List U)) (HE : List (List U)) (HF : List (List U)) (HG : List (List U)) (HH : List (List U)) (HI : List (List U)) (JO : Int) (HJ : List (List U)) (HK : List (List U)) (Mm : WR Db.ct 276 HC) (Py : Da HC ≤ 1048576) (Mu : WR Db.ct 130 HL) (PI : Da HL ≤ 1048576) (Mw : WR Db.ct 280 HM) (PJ : Da HM ≤ 1048576) (Mx : WR Db.ct 274 HN) (PK : Da HN ≤ 1048576) (My : WR Db.ct 137 HO) (PO : Da HO ≤ 1048576) (Li : WR Db.ct 133 HP) (PQ : Da HP ≤ 1048576) (Mz : WR Db.ct 4 HQ) (Rp : Da HQ ≤ 1048576) (Lj : WR Db.ct 167 HR) (PR : Da HR ≤ 1048576) (Mn : WR Db.ct 192 HD) (Pz : Da HD ≤ 1048576) (Mo : WR Db.ct 195 HE) (PA : Da HE ≤ 1048576) (Mp : WR Db.ct 198 HF) (PB : Da HF ≤ 1048576) (Mq : WR Db.ct 183 HG) (PC : Da HG ≤ 1048576) (Mr : WR Db.ct 3 HH) (PD : Da HH ≤ 1048576) (Ms : WR Db.ct 3 HI) (PE : Da HI ≤ 1048576) (Lh : WR Db.ct 180 HJ) (PF : Da HJ ≤ 1048576) (Mt : WR Db.ct 206 HK) (PH : Da HK ≤ 1048576) : ∃ (r0 : Bool), OW.c JM HC HL HM HN JP HO HP HQ HR JN HD HE HF HG HH HI JO HJ HK = some ⟨[[.bool r0]], []⟩ ∧ ME.c JM HC HL HM HN JP HO HP HQ HR JN HD HE HF HG HH HI JO HJ HK = some ⟨[[.bool r0]], []⟩ := by
 obtain ⟨r, h1, h2⟩ := WE JM HC HL HM HN JP HO HP HQ HR JN HD HE HF HG HH HI JO HJ HK Li Lh Lj PR Py PI PJ PK PO PQ Pz PA PB PC PD PE PF PH
 rw [OW.eq, ME.eq, h1, h2]
 exact ⟨_, rfl, rfl⟩
end Go.Proofs.YtbanfmadialnkaaGreat.Eng
/- half -/
