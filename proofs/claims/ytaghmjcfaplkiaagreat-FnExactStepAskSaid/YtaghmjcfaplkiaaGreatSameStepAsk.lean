/- StepAsk: the reference and the program give the same. -/
import Derived.Test.YtaghmjcfaplkiaaGreatPAk
namespace Go.Proofs.YtaghmjcfaplkiaaGreat.Eng
open Go.RowKit
set_option linter.unusedVariables false
set_option linter.unusedSimpArgs false
set_option linter.unusedSectionVars false
set_option maxRecDepth 100000
variable [Sm]
theorem aeP (Gt : Int) (GZ Hf Hg Hh : List (List U)) (Hs : Int) (GV GM Hi Gv : List (List U)) (Hq : Int) (HG Ha GU HH Hb Hc : List (List U)) (Hr : Int) (Hd He : List (List U)) (p1 p2 p3 Hx Kb Kc IH Hy Oe : Int) (YJ : Vg [Gt,Hs,Hq,Hr]) (LV : WR Fv.ct 252 GZ) (RH : Fy GZ ≤ 1048576) (LX : WR Fv.ct 164 Hf) (RP : Fy Hf ≤ 1048576) (Nk : WR Fv.ct 256 Hg) (RQ : Fy Hg ≤ 1048576) (Nl : WR Fv.ct 260 Hh) (RR : Fy Hh ≤ 1048576) (Nn : WR Fv.ct 230 GV) (RT : Fy GV ≤ 1048576) (LA : WR Fv.ct 167 GM) (Qq : Fy GM ≤ 1048576) (Np : WR Fv.ct 4 Hi) (RU : Fy Hi ≤ 1048576) (Jj : WR Fv.ct 90 Gv) (NU : Fy Gv ≤ 1048576) (Nd : WR Fv.ct 182 HG) (Qn : Fy HG ≤ 1048576) (Lz : WR Fv.ct 185 Ha) (Qo : Fy Ha ≤ 1048576) (Nf : WR Fv.ct 188 GU) (RJ : Fy GU ≤ 1048576) (Ng : WR Fv.ct 192 HH) (Qp : Fy HH ≤ 1048576) (Nh : WR Fv.ct 3 Hb) (RK : Fy Hb ≤ 1048576) (Ni : WR Fv.ct 3 Hc) (RL : Fy Hc ≤ 1048576) (LW : WR Fv.ct 94 Hd) (RN : Fy Hd ≤ 1048576) (Nj : WR Fv.ct 198 He) (RO : Fy He ≤ 1048576) (Vt : -9223372036854775808 ≤ p1 ∧ p1 ≤ 9223372036854775807) (BN : -9223372036854775808 ≤ p2 ∧ p2 ≤ 9223372036854775807) (Vu : -9223372036854775808 ≤ p3 ∧ p3 ≤ 9223372036854775807) (RX : Vg [Hx,Kb,Kc,IH,Hy,Oe]) : ∃ (Rc : Int) (OF OO OP OQ : List (List U)) (Rg : Int) (OR OS OT OU : List (List U)) (Re : Int) (OG OH OI OJ OK OL : List (List U)) (Rf : Int) (OM ON : List (List U)) (r1 : Int),UD.c Gt GZ Hf Hg Hh Hs GV GM Hi Gv Hq HG Ha GU HH Hb Hc Hr Hd He p1 p2 p3 Hx Kb Kc IH Hy Oe = some ⟨[[.int Rc,.lst OF,.lst OO,.lst OP,.lst OQ,.int Rg,.lst OR,.lst OS,.lst OT,.lst OU,.int Re,.lst OG,.lst OH,.lst OI,.lst OJ,.lst OK,.lst OL,.int Rf,.lst OM,.lst ON],[.int r1]],[]⟩ ∧ QI.c Gt GZ Hf Hg Hh Hs GV GM Hi Gv Hq HG Ha GU HH Hb Hc Hr Hd He p1 p2 p3 Hx Kb Kc IH Hy Oe = some ⟨[[.int Rc,.lst OF,.lst OO,.lst OP,.lst OQ,.int Rg,.lst OR,.lst OS,.lst OT,.lst OU,.int Re,.lst OG,.lst OH,.lst OI,.lst OJ,.lst OK,.lst OL,.int Rf,.lst OM,.lst ON],[.int r1]],[]⟩ ∧ WR Fv.ct 252 OF ∧ Fy OF ≤ 1099511627776 ∧ WR Fv.ct 164 OO ∧ Fy OO ≤ 1099511627776 ∧ WR Fv.ct 256 OP ∧ Fy OP ≤ 1099511627776 ∧ WR Fv.ct 260 OQ ∧ Fy OQ ≤ 1099511627776 ∧ WR Fv.ct 230 OR ∧ Fy OR ≤ 1099511627776 ∧ WR Fv.ct 167 OS ∧ Fy OS ≤ 1099511627776 ∧ WR Fv.ct 4 OT ∧ Fy OT ≤ 1099511627776 ∧ WR Fv.ct 90 OU ∧ Fy OU ≤ 1099511627776 ∧ WR Fv.ct 182 OG ∧ Fy OG ≤ 1099511627776 ∧ WR Fv.ct 185 OH ∧ Fy OH ≤ 1099511627776 ∧ WR Fv.ct 188 OI ∧ Fy OI ≤ 1099511627776 ∧ WR Fv.ct 192 OJ ∧ Fy OJ ≤ 1099511627776 ∧ WR Fv.ct 3 OK ∧ Fy OK ≤ 1099511627776 ∧ WR Fv.ct 3 OL ∧ Fy OL ≤ 1099511627776 ∧ WR Fv.ct 94 OM ∧ Fy OM ≤ 1099511627776 ∧ WR Fv.ct 198 ON ∧ Fy ON ≤ 1099511627776:=by
 have YR : Gr Hx:=RX Hx (by simp)
 have acq : Gr IH:=RX IH (by simp)
 have YS : Gr Hy:=RX Hy (by simp)
 have h6:=FP GV
 have Lb:=FP GU
 have h7:=FP GM
 have h9:=FP Gv
 have hw7 : Ft (ln GM - 1) = ln GM - 1:=Jg (by show _ ≤ (GM.length : Int) - 1; omega) (by show (GM.length : Int) - 1 ≤ _; omega)
 rw [UD.eq,QI.eq,VV.eq,aee Gt GZ Hf Hg Hh Hs GV GM Hi Gv Hq HG Ha GU HH Hb Hc Hr Hd He LV LX LA Jj Lz LW RH RP RQ RR RT Qq RU NU Qn Qo RJ Qp RK RL RN RO,acM Gt GZ Hf Hg Hh Hs GV GM Hi Gv Hq HG Ha GU HH Hb Hc Hr Hd He LV LX LA Jj Lz LW RH RP RQ RR RT Qq RU NU Qn Qo RJ Qp RK RL RN RO,Ij,HQ,hw7,Ou.eq]
 cases hw : within p1 0 (ln GM - 1)
 ·exact ⟨Gt,GZ,Hf,Hg,Hh,Hs,GV,GM,Hi,Gv,Hq,HG,Ha,GU,HH,Hb,Hc,Hr,Hd,He,4,rfl,rfl,LV,by omega,LX,by omega,Nk,by omega,Nl,by omega,Nn,by omega,LA,by omega,Np,by omega,Jj,by omega,Nd,by omega,Lz,by omega,Nf,by omega,Ng,by omega,Nh,by omega,Ni,by omega,LW,by omega,Nj,by omega⟩
 obtain ⟨w1,w2⟩:=Gx hw
 obtain ⟨i,rfl⟩ : ∃ i : Nat,p1 = i:=⟨p1.toNat,by omega⟩
 have hi : i < GM.length:=by have : (i : Int) ≤ (GM.length : Int) - 1:=w2; omega
 obtain ⟨c,b7,Hn,LQ,jds,jdi,j3,j4,j5,j6,j7,j8,j9,Xf,Ox⟩:=adt Gt GZ Hf Hg Hh Hs GV GM Hi Gv Hq HG Ha GU HH Hb Hc Hr Hd He hi (by omega) LA Qq Nd Qn Lz Qo (by omega) Ng Qp p2 p3 Hx Kb Kc IH Hy Gt YR acq YS
 simp only [q0,NR,qb,qXa,qQ3,zw]
 have jdr : Pv.c (i : Int) p2 p3 ((⟨[[.int Hx,.int Kb,.int Kc,.int IH,.int Hy,.int Gt]],[]⟩ : aJ).i 0) ((⟨[[.int Hx,.int Kb,.int Kc,.int IH,.int Hy,.int Gt]],[]⟩ : aJ).i 1) ((⟨[[.int Hx,.int Kb,.int Kc,.int IH,.int Hy,.int Gt]],[]⟩ : aJ).i 2) ((⟨[[.int Hx,.int Kb,.int Kc,.int IH,.int Hy,.int Gt]],[]⟩ : aJ).i 3) ((⟨[[.int Hx,.int Kb,.int Kc,.int IH,.int Hy,.int Gt]],[]⟩ : aJ).i 4) ((⟨[[.int Hx,.int Kb,.int Kc,.int IH,.int Hy,.int Gt]],[]⟩ : aJ).i 5) [[U.int Gt,U.lst GZ,U.lst Hf,U.lst Hg,U.lst Hh,U.int Hs,U.lst GV,U.lst GM,U.lst Hi,U.lst Gv,U.int Hq,U.lst HG,U.lst Ha,U.lst GU,U.lst HH,U.lst Hb,U.lst Hc,U.int Hr,U.lst Hd,U.lst He]] = some ⟨[[.int c]],[[[U.int Gt,U.lst GZ,U.lst Hf,U.lst Hg,U.lst Hh,U.int Hs,U.lst GV,U.lst b7,U.lst Hi,U.lst Gv,U.int Hq,U.lst Hn,U.lst Ha,U.lst GU,U.lst LQ,U.lst Hb,U.lst Hc,U.int Hr,U.lst Hd,U.lst He]]]⟩:=jdi
 have jdt : Qd.c Gt GZ Hf Hg Hh Hs GV GM Hi Gv Hq HG Ha GU HH Hb Hc Hr Hd He (i : Int) p2 p3 Hx Kb Kc IH Hy Gt [[U.int Gt,U.lst GZ,U.lst Hf,U.lst Hg,U.lst Hh,U.int Hs,U.lst GV,U.lst GM,U.lst Hi,U.lst Gv,U.int Hq,U.lst HG,U.lst Ha,U.lst GU,U.lst HH,U.lst Hb,U.lst Hc,U.int Hr,U.lst Hd,U.lst He]] = some ⟨[[.int c]],[[[U.int Gt,U.lst GZ,U.lst Hf,U.lst Hg,U.lst Hh,U.int Hs,U.lst GV,U.lst b7,U.lst Hi,U.lst Gv,U.int Hq,U.lst Hn,U.lst Ha,U.lst GU,U.lst LQ,U.lst Hb,U.lst Hc,U.int Hr,U.lst Hd,U.lst He]]]⟩:=jds
 rw [jdr,jdt]
 simp only [q0]
 have hm : ∀ (c : Int) (x : LL),(⟨[[.int c]],[x]⟩ : aJ).m 0 = x:=fun _ _=>rfl
 have hq : ∀ (c : Int) (m : List LL),(⟨[[.int c]],m⟩ : aJ).i 0 = c:=fun _ _=>rfl
 simp only [hm,hq]
 cases hd : decide ((i : Int) ≥ ln Gv)
 rotate_left
 ·have hd:=qZu hd
  rw [ac3 Gt GZ Hf Hg Hh Hs GV b7 Hi Gv Hq Hn Ha GU LQ Hb Hc Hr Hd He (i:=(i : Int)) (by omega) 1 0 0 p2 Hx Hy c 0 0]
  simp only [q0,Yr,c_t]
  exact ⟨Gt,GZ,Hf,Hg,Hh,Hs,GV,GM,Hi,Gv,Hq,HG,Ha,GU,HH,Hb,Hc,Hr,Hd,He,4,(by kernel_rfl),(by kernel_rfl),LV,by omega,LX,by omega,Nk,by omega,Nl,by omega,Nn,by omega,LA,by omega,Np,by omega,Jj,by omega,Nd,by omega,Lz,by omega,Nf,by omega,Ng,by omega,Nh,by omega,Ni,by omega,LW,by omega,Nj,by omega⟩
 have hd:=of_decide_eq_false hd
 have Ji : i < Gv.length:=by have : ¬ (i : Int) ≥ (Gv.length : Int):=hd; omega
 rw [aam Gt GZ Hf Hg Hh Hs GV GM Hi Gv Hq HG Ha GU HH Hb Hc Hr Hd He hi Jj NU Ji 1 0 0 0 0 0 0 0 0,aam Gt GZ Hf Hg Hh Hs GV GM Hi Gv Hq HG Ha GU HH Hb Hc Hr Hd He hi Jj NU Ji 1 0 0 p2 Hx Hy c 0 0,ac2 Gt GZ Hf Hg Hh Hs GV b7 Hi Gv Hq Hn Ha GU LQ Hb Hc Hr Hd He j6 Jj NU Ji 1 0 0 p2 Hx Hy c 0 0]
 have av : Ll Gt b7 Gv i 1 p2 Hx Hy c = Ll Gt GM Gv i 1 p2 Hx Hy c:=by
  unfold Ll Ra
  rw [j7.1,j7.2]
 rw [av]
 obtain ⟨g1,g2⟩:=adC (a0:=Gt) LA hi Jj NU Ji (k:=1) (s:=p2) (p:=Hx) (o:=Hy) (c:=c) (by omega) BN YR YS j3
 simp only [q0,c_f]
 cases hb : OB Gt Gv i 1
 ·simp only [abj,Yr]
  exact ⟨Gt,GZ,Hf,Hg,Hh,Hs,GV,GM,Hi,Gv,Hq,HG,Ha,GU,HH,Hb,Hc,Hr,Hd,He,4,(by kernel_rfl),(by kernel_rfl),LV,by omega,LX,by omega,Nk,by omega,Nl,by omega,Nn,by omega,LA,by omega,Np,by omega,Jj,by omega,Nd,by omega,Lz,by omega,Nf,by omega,Ng,by omega,Nh,by omega,Ni,by omega,LW,by omega,Nj,by omega⟩
 simp only [abk,abh]
 refine ⟨Gt,GZ,Hf,Hg,Hh,Hs,GV,b7,Hi,UH Gv i (Ll Gt GM Gv i 1 p2 Hx Hy c),Hq,Hn,Ha,GU,LQ,Hb,Hc,Hr,Hd,He,c,?_,?_,LV,by omega,LX,by omega,Nk,by omega,Nl,by omega,Nn,by omega,j4,j5,Np,by omega,g1,by omega,j8,by omega,Lz,by omega,Nf,by omega,Xf,by omega,Nh,by omega,Ni,by omega,LW,by omega,Nj,by omega⟩
 ·rw [← Yc Jj Ji]
  refine Eq.trans (b:=EK (dE (i : Int) Gv.length) (some ⟨[[.int Gt,.lst GZ,.lst Hf,.lst Hg,.lst Hh,.int Hs,.lst GV,.lst b7,.lst Hi,.lst (bY Gv i 0 [U.lst (Ll Gt GM Gv i 1 p2 Hx Hy c)]),.int Hq,.lst Hn,.lst Ha,.lst GU,.lst LQ,.lst Hb,.lst Hc,.int Hr,.lst Hd,.lst He],[.int c]],[]⟩)) (by kernel_rfl) ?_
  rw [FU Ji]; kernel_rfl
 ·kernel_rfl
end Go.Proofs.YtaghmjcfaplkiaaGreat.Eng
/- half -/
