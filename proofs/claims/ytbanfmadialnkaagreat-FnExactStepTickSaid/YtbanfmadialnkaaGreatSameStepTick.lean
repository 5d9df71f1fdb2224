/- StepTick: the reference and the program give the same. -/
import Derived.Test.YtbanfmadialnkaaGreatPCw
namespace Go.Proofs.YtbanfmadialnkaaGreat.Eng
open Go.RowKit
set_option linter.unusedVariables false
set_option linter.unusedSimpArgs false
set_option linter.unusedSectionVars false
set_option maxRecDepth 100000
variable [Sm]
theorem aaM {ss ee cs : LL} (hs : ss.length ≤ 1048576) (hp : WR CZ.ct 133 ee) (JV : Db ee ≤ 1048576) (aL : cs.length ≤ 1048576) (sec now : Int) : Gr.c ss ee sec cs now = some ⟨[[.lst (review (JS ee sec cs now) ss ss.length 0 ss 0).1], [.int (review (JS ee sec cs now) ss ss.length 0 ss 0).2]], []⟩ := by
 rw [Gr.eq, Dr (by omega) (by omega)]
 exact Tv hs hp JV aL sec now ss.length 0 ss 0 (by omega) rfl (by omega) (by omega)
theorem YI {ss ee cs : LL} (hs : ss.length ≤ 1048576) (hp : WR CZ.ct 133 ee) (JV : Db ee ≤ 1048576) (aL : cs.length ≤ 1048576) (sec now : Int) : Ga.c ss ee sec cs now = some ⟨[[.lst (review (JS ee sec cs now) ss ss.length 0 ss 0).1], [.int (review (JS ee sec cs now) ss ss.length 0 ss 0).2]], []⟩ := by
 rw [Ga.eq, Dr (by omega) (by omega)]
 exact Sw hs hp JV aL sec now ss.length 0 ss 0 (by omega) rfl (by omega) (by omega)
theorem aaX (FF : Int) (FG : List (List U)) (FO : List (List U)) (FP : List (List U)) (FQ : List (List U)) (Gp : Int) (EJ : List (List U)) (EN : List (List U)) (FR : List (List U)) (FU : List (List U)) (IK : Int) (FH : List (List U)) (FI : List (List U)) (FJ : List (List U)) (FK : List (List U)) (FL : List (List U)) (FM : List (List U)) (IL : Int) (FN : List (List U)) (Ez : List (List U)) (p1 : Int) (JI : WR CZ.ct 276 FG) (Nf : Db FG ≤ 1048576) (JL : WR CZ.ct 130 FO) (Nq : Db FO ≤ 1048576) (Kp : WR CZ.ct 280 FP) (Nr : Db FP ≤ 1048576) (Kq : WR CZ.ct 274 FQ) (Ns : Db FQ ≤ 1048576) (Kr : WR CZ.ct 137 EJ) (Nt : Db EJ ≤ 1048576) (IC : WR CZ.ct 133 EN) (Lt : Db EN ≤ 1048576) (Ks : WR CZ.ct 4 FR) (Nu : Db FR ≤ 1048576) (JM : WR CZ.ct 167 FU) (Nv : Db FU ≤ 1048576) (Kj : WR CZ.ct 192 FH) (Ng : Db FH ≤ 1048576) (JJ : WR CZ.ct 195 FI) (Nh : Db FI ≤ 1048576) (Kk : WR CZ.ct 198 FJ) (Ni : Db FJ ≤ 1048576) (Kl : WR CZ.ct 183 FK) (Nj : Db FK ≤ 1048576) (Km : WR CZ.ct 3 FL) (Nk : Db FL ≤ 1048576) (Kn : WR CZ.ct 3 FM) (Nl : Db FM ≤ 1048576) (JK : WR CZ.ct 180 FN) (Nn : Db FN ≤ 1048576) (Ko : WR CZ.ct 206 Ez) (Np : Db Ez ≤ 1048576) (QK : -9223372036854775808 ≤ p1 ∧ p1 ≤ 9223372036854775807) : ∃ (MD : Int) (KV : List (List U)) (Le : List (List U)) (Lg : List (List U)) (Lh : List (List U)) (MG : Int) (Li : List (List U)) (Lj : List (List U)) (Lk : List (List U)) (Ll : List (List U)) (ME : Int) (KW : List (List U)) (KX : List (List U)) (KY : List (List U)) (KZ : List (List U)) (La : List (List U)) (Lb : List (List U)) (MF : Int) (Lc : List (List U)) (Ld : List (List U)) (r1 : Bool), Qf.c FF FG FO FP FQ Gp EJ EN FR FU IK FH FI FJ FK FL FM IL FN Ez p1 = some ⟨[[.int MD, .lst KV, .lst Le, .lst Lg, .lst Lh, .int MG, .lst Li, .lst Lj, .lst Lk, .lst Ll, .int ME, .lst KW, .lst KX, .lst KY, .lst KZ, .lst La, .lst Lb, .int MF, .lst Lc, .lst Ld], [.bool r1]], []⟩ ∧ Mm.c FF FG FO FP FQ Gp EJ EN FR FU IK FH FI FJ FK FL FM IL FN Ez p1 = some ⟨[[.int MD, .lst KV, .lst Le, .lst Lg, .lst Lh, .int MG, .lst Li, .lst Lj, .lst Lk, .lst Ll, .int ME, .lst KW, .lst KX, .lst KY, .lst KZ, .lst La, .lst Lb, .int MF, .lst Lc, .lst Ld], [.bool r1]], []⟩ ∧ WR CZ.ct 276 KV ∧ Db KV ≤ 1099511627776 ∧ WR CZ.ct 130 Le ∧ Db Le ≤ 1099511627776 ∧ WR CZ.ct 280 Lg ∧ Db Lg ≤ 1099511627776 ∧ WR CZ.ct 274 Lh ∧ Db Lh ≤ 1099511627776 ∧ WR CZ.ct 137 Li ∧ Db Li ≤ 1099511627776 ∧ WR CZ.ct 133 Lj ∧ Db Lj ≤ 1099511627776 ∧ WR CZ.ct 4 Lk ∧ Db Lk ≤ 1099511627776 ∧ WR CZ.ct 167 Ll ∧ Db Ll ≤ 1099511627776 ∧ WR CZ.ct 192 KW ∧ Db KW ≤ 1099511627776 ∧ WR CZ.ct 195 KX ∧ Db KX ≤ 1099511627776 ∧ WR CZ.ct 198 KY ∧ Db KY ≤ 1099511627776 ∧ WR CZ.ct 183 KZ ∧ Db KZ ≤ 1099511627776 ∧ WR CZ.ct 3 La ∧ Db La ≤ 1099511627776 ∧ WR CZ.ct 3 Lb ∧ Db Lb ≤ 1099511627776 ∧ WR CZ.ct 180 Lc ∧ Db Lc ≤ 1099511627776 ∧ WR CZ.ct 206 Ld ∧ Db Ld ≤ 1099511627776 := by
 have h6 := Dk EJ
 have TX := Dk Ez
 rw [Qf.eq, Mm.eq, aaq FF FG FO FP FQ Gp EJ EN FR FU IK FH FI FJ FK FL FM IL FN Ez JI JL IC JM JJ JK Nf Nq Nr Ns Nt Lt Nu Nv Ng Nh Ni Nj Nk Nl Nn Np, Yl FF FG FO FP FQ Gp EJ EN FR FU IK FH FI FJ FK FL FM IL FN Ez JI JL IC JM JJ JK Nf Nq Nr Ns Nt Lt Nu Nv Ng Nh Ni Nj Nk Nl Nn Np, IP, Hr]
 cases hw : within p1 0 20
 ·exact ⟨FF, FG, FO, FP, FQ, Gp, EJ, EN, FR, FU, IK, FH, FI, FJ, FK, FL, FM, IL, FN, Ez, false, rfl, rfl, JI, by omega, JL, by omega, Kp, by omega, Kq, by omega, Kr, by omega, IC, by omega, Ks, by omega, JM, by omega, Kj, by omega, JJ, by omega, Kk, by omega, Kl, by omega, Km, by omega, Kn, by omega, JK, by omega, Ko, by omega⟩
 cases hd : decide (FF > CX (10000 - p1))
 ·obtain ⟨w, l⟩ := Tc (JS EN Gp EJ (CX (FF + p1))) Ez Ez.length 0 Ez 0 (by omega) rfl Ko
  have hf := XC w
  refine ⟨CX (FF + p1), FG, FO, FP, FQ, Gp, EJ, EN, FR, FU, IK, FH, FI, FJ, FK, FL, FM, IL, FN, (review (JS EN Gp EJ (CX (FF + p1))) Ez Ez.length 0 Ez 0).1, true, ?_, ?_, JI, by omega, JL, by omega, Kp, by omega, Kq, by omega, Kr, by omega, IC, by omega, Ks, by omega, JM, by omega, Kj, by omega, JJ, by omega, Kk, by omega, Kl, by omega, Km, by omega, Kn, by omega, JK, by omega, w, by omega⟩
  ·show ((Gr.c Ez EN Gp EJ (CX (FF + p1))).bind _) = _
   rw [aaM (by omega) IC Lt (by omega)]; rfl
  ·show ((Ga.c Ez EN Gp EJ (CX (FF + p1))).bind _) = _
   rw [YI (by omega) IC Lt (by omega)]; rfl
 ·exact ⟨FF, FG, FO, FP, FQ, Gp, EJ, EN, FR, FU, IK, FH, FI, FJ, FK, FL, FM, IL, FN, Ez, false, rfl, rfl, JI, by omega, JL, by omega, Kp, by omega, Kq, by omega, Kr, by omega, IC, by omega, Ks, by omega, JM, by omega, Kj, by omega, JJ, by omega, Kk, by omega, Kl, by omega, Km, by omega, Kn, by omega, JK, by omega, Ko, by omega⟩
end Go.Proofs.YtbanfmadialnkaaGreat.Eng
/- half -/
