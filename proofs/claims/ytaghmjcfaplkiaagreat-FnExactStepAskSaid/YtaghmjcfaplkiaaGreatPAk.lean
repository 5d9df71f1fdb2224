/- A world judges. -/
import Derived.Test.YtaghmjcfaplkiaaGreatPGr
import Derived.Test.YtaghmjcfaplkiaaGreatPCf
import Derived.Test.YtaghmjcfaplkiaaGreatPA10
namespace Go.Proofs.YtaghmjcfaplkiaaGreat.Eng
open Go.RowKit
set_option linter.unusedVariables false
set_option linter.unusedSimpArgs false
set_option linter.unusedSectionVars false
set_option maxRecDepth 100000
variable [Sm]
/-- A point's saved decisions are replaced. -/
noncomputable def NL (a7 : LL) (i : Nat) (sv : LL) : LL:=a7.set i [U.int (gi a7 (i : Int) 0),U.int (gi a7 (i : Int) 1),U.int (gi a7 (i : Int) 2),U.lst (gl a7 (i : Int) 3),U.int (gi a7 (i : Int) 4),U.lst (GW (gl a7 (i : Int) 5)),U.lst (gl a7 (i : Int) 6),U.lst (gl a7 (i : Int) 7),U.int (gi a7 (i : Int) 8),U.lst sv]
theorem adO {a7 : LL} (h7 : WR Fv.ct 167 a7) (b7 : Fy a7 ≤ 1048576) {i : Nat} (hi : i < a7.length) {sv : LL} (hw : WR Fv.ct 286 sv) (hl : sv.length ≤ 1048577) : WR Fv.ct 167 (NL a7 i sv) ∧ Fy (NL a7 i sv) ≤ 1099511627776:=by
 have HA:=h7.2 _ (FF hi (z:=[]))
 have Si:=Gc (FF hi (z:=[]))
 obtain ⟨c0,c1,c2,c3,c4,c5,c6,c7,c8,c9,hr,h3,h5,h6,h7',h9⟩:=OY HA
 have f2:=ab7 hw
 have e : NL a7 i sv = a7.set i [U.int c0,U.int c1,U.int c2,U.lst c3,U.int c4,U.lst c5,U.lst c6,U.lst c7,U.int c8,U.lst sv]:=by
  unfold NL gi gl
  rw [qQd,hr]
  show a7.set i [U.int c0,U.int c1,U.int c2,U.lst c3,U.int c4,U.lst (GW c5),U.lst c6,U.lst c7,U.int c8,U.lst sv] = _
  rw [Vo h5]
 rw [hr] at HA Si
 rw [e]
 refine ⟨⟨by rw [qQl]; exact h7.1,fun x hx=>?_⟩,?_⟩
 ·rcases qXt hx with hx | rfl
  ·exact h7.2 x hx
  ·exact HA.set (i:=9) (ct:=.aj 286) rfl hw.XZ
 ·have xq:=Vm (r:=[U.int c0,U.int c1,U.int c2,U.lst c3,U.int c4,U.lst c5,U.lst c6,U.lst c7,U.int c8,U.lst sv]) hi
  simp only [FQ,FX] at Si xq
  omega
theorem ZF {a7 : LL} (h7 : WR Fv.ct 167 a7) {i : Nat} (hi : i < a7.length) (sv : LL) : bY a7 i 0 [U.int (gi a7 (i : Int) 0),U.int (gi a7 (i : Int) 1),U.int (gi a7 (i : Int) 2),U.lst (gl a7 (i : Int) 3),U.int (gi a7 (i : Int) 4),U.lst (GW (gl a7 (i : Int) 5)),U.lst (gl a7 (i : Int) 6),U.lst (gl a7 (i : Int) 7),U.int (gi a7 (i : Int) 8),U.lst sv] = NL a7 i sv:=by
 rw [Gp]
 have HA:=h7.2 _ (FF hi (z:=[]))
 obtain ⟨c0,c1,c2,c3,c4,c5,c6,c7,c8,c9,hr,_⟩:=OY HA
 rw [hr]; rfl
theorem aeV {a7 : LL} (h7 : WR Fv.ct 167 a7) (b7 : Fy a7 ≤ 1048576) {i : Nat} (hi : i < a7.length) : WR Fv.ct 286 (gl a7 (i : Int) 9) ∧ (gl a7 (i : Int) 9).length ≤ 1048576 ∧ Gr (gi a7 (i : Int) 0):=by
 have HA:=h7.2 _ (FF hi (z:=[]))
 have Si:=Gc (FF hi (z:=[]))
 unfold gl gi
 rw [qQd]
 obtain ⟨c0,c1,c2,c3,c4,c5,c6,c7,c8,c9,hr,h3,h5,h6,h7',h9⟩:=OY HA
 have hl:=FP c9
 rw [hr] at HA Si ⊢
 simp only [FQ,FX] at Si
 exact ⟨h9,by show c9.length ≤ _; omega,wi (HA.2 0 _ _ rfl rfl)⟩
theorem aaP {sv : LL} (h : WR Fv.ct 286 sv) (ps : LL) (v : Int) (rs s rv : LL) (sy k c0 c1 c2 c3 c4 c5 p d g a o now : Int) : Gr (Pg ps v rs s rv sy sv k c0 c1 c2 c3 c4 c5 p d g a o now):=by
 have z : ∀ n : Int,0 ≤ n → n ≤ 5 → Gr n:=fun n h1 h2=>by unfold Gr; omega
 unfold Pg
 cases HR p d g a o now
 ·exact z 4 (by decide) (by decide)
 cases MK k c0 c1 c2 c3 c4 c5 now
 ·exact z 4 (by decide) (by decide)
 cases decide (c1 = d)
 ·exact z 4 (by decide) (by decide)
 cases Lv sy now 10
 ·exact z 2 (by decide) (by decide)
 cases NM rv c0 now
 ·rw [qQh,qQh,qQh,qQh,qQ3]
  rcases NK sv (KT p d g a o now) with ⟨hj,_⟩ | ⟨j,hj,fH,_⟩
  ·rw [hj]
   show Gr (HU ps s v rs p d g a o now)
   rcases YA ps s v rs p d g a o now with h | h <;> rw [h] <;> exact z _ (by decide) (by decide)
  ·rw [hj,qQa (show (j : Int) ≥ 0 by omega)]
   have HA:=h.2 _ (FF fH (z:=[]))
   obtain ⟨c0,c1,c2,c3,c4,c5,c6,c7,hr⟩:=Rk HA
   show Gr (ui (sv.getD j []) 6)
   rw [hr] at HA ⊢
   exact wi (HA.2 6 _ _ rfl rfl)
 ·exact z 3 (by decide) (by decide)
noncomputable def Ns (a5 : Int) (a6 a7 : LL) (i : Nat) (n m d g ac o now : Int) : Int:=Pg (gl a7 (i : Int) 3) (gi a7 (i : Int) 4) (gl a7 (i : Int) 5) (gl a7 (i : Int) 6) (gl a7 (i : Int) 7) (gi a7 (i : Int) 8) (gl a7 (i : Int) 9) a5 (cf a6 (Gb a6 (fun y=>decide (v0 y = n))) 0) (cf a6 (Gb a6 (fun y=>decide (v0 y = n))) 1) (cf a6 (Gb a6 (fun y=>decide (v0 y = n))) 2) (cf a6 (Gb a6 (fun y=>decide (v0 y = n))) 3) (cf a6 (Gb a6 (fun y=>decide (v0 y = n))) 4) (cf a6 (Gb a6 (fun y=>decide (v0 y = n))) 5) m d g ac o now
noncomputable def LH (a5 : Int) (a6 a7 : LL) (i : Nat) (n m d g ac o now : Int) : LL:=Ol (gl a7 (i : Int) 3) (gi a7 (i : Int) 4) (gl a7 (i : Int) 5) (gl a7 (i : Int) 6) (gl a7 (i : Int) 7) (gi a7 (i : Int) 8) (gl a7 (i : Int) 9) a5 (cf a6 (Gb a6 (fun y=>decide (v0 y = n))) 0) (cf a6 (Gb a6 (fun y=>decide (v0 y = n))) 1) (cf a6 (Gb a6 (fun y=>decide (v0 y = n))) 2) (cf a6 (Gb a6 (fun y=>decide (v0 y = n))) 3) (cf a6 (Gb a6 (fun y=>decide (v0 y = n))) 4) (cf a6 (Gb a6 (fun y=>decide (v0 y = n))) 5) m d g ac o now
noncomputable def QP (a0 a5 : Int) (a6 a7 FA FD FE : LL) (i : Nat) (n m p d g ac o now : Int) : Bool:=decide ((Ns a5 a6 a7 i n m d g ac o now) = 1) && (MJ FD FE p ac o a0 && MV FA (gi a7 (i : Int) 0) 1)
noncomputable def SN (a0 a5 : Int) (a6 a7 FA FD FE : LL) (i : Nat) (n m p d g ac o now : Int) : Int:=bif !decide ((Ns a5 a6 a7 i n m d g ac o now) = 1) then (Ns a5 a6 a7 i n m d g ac o now) else bif !MJ FD FE p ac o a0 then 0 else bif !MV FA (gi a7 (i : Int) 0) 1 then 5 else 1
noncomputable def Ox (a0 a5 : Int) (a6 a7 FA FD FE : LL) (i : Nat) (n m p d g ac o now : Int) : LL:=bif QP a0 a5 a6 a7 FA FD FE i n m p d g ac o now then Pd FA (gi a7 (i : Int) 0) 1 else FA
noncomputable def Pz (a0 a5 : Int) (a6 a7 FA FD FE : LL) (i : Nat) (n m p d g ac o now : Int) : LL:=bif QP a0 a5 a6 a7 FA FD FE i n m p d g ac o now then Oh FD FE p ac o a0 else FE
abbrev GR (a0 : Int) (a1 a2 a3 a4 : List (List U)) (a5 : Int) (a6 a7 a8 a9 : List (List U)) (FB : Int) (FA a12 FD FE FG FI : List (List U)) (FL : Int) (FJ FK : List (List U)) : LL:=[[U.int a0,U.lst a1,U.lst a2,U.lst a3,U.lst a4,U.int a5,U.lst a6,U.lst a7,U.lst a8,U.lst a9,U.int FB,U.lst FA,U.lst a12,U.lst FD,U.lst FE,U.lst FG,U.lst FI,U.int FL,U.lst FJ,U.lst FK]]
noncomputable def QQ (a0 : Int) (a1 a2 a3 a4 : List (List U)) (a5 : Int) (a6 a7 a8 a9 : List (List U)) (FB : Int) (FA a12 FD FE FG FI : List (List U)) (FL : Int) (FJ FK : List (List U)) (i : Nat) (n m p d g ac o now : Int) : O:=some ⟨[[.int (SN a0 a5 a6 a7 FA FD FE i n m p d g ac o now)]],[(GR a0 a1 a2 a3 a4 a5 a6 (NL a7 i (LH a5 a6 a7 i n m d g ac o now)) a8 a9 FB (Ox a0 a5 a6 a7 FA FD FE i n m p d g ac o now) a12 FD (Pz a0 a5 a6 a7 FA FD FE i n m p d g ac o now) FG FI FL FJ FK)]⟩
def PA (gr r p : Int) : Int:=bif !decide (gr = 0) then r else p
noncomputable def Wu (a0 : Int) (a1 a2 a3 a4 : List (List U)) (a5 : Int) (a6 a7 a8 a9 : List (List U)) (FB : Int) (FA a12 FD FE FG FI : List (List U)) (FL : Int) (FJ FK : List (List U)) (i : Nat) (n m p d g ac o now : Int) : O:=((PW.c a0 a1 a2 a3 a4 a5 a6 a7 a8 a9 FB FA a12 FD FE FG FI FL FJ FK n).bind fun r5=>EK (dE (i : Int) a7.length) ((PU.c (gi a7 (i : Int) 0) (gi a7 (i : Int) 1) (gi a7 (i : Int) 2) (gl a7 (i : Int) 3) (gi a7 (i : Int) 4) (gl a7 (i : Int) 5) (gl a7 (i : Int) 6) (gl a7 (i : Int) 7) (gi a7 (i : Int) 8) (gl a7 (i : Int) 9) a5 (r5.i 0) (r5.i 1) (r5.i 2) (r5.i 3) (r5.i 4) (r5.i 5) m d g ac o now).bind fun r6=>EK (dE (i : Int) a7.length) (bif !decide (r6.ij 1 0 = 1) then (some ⟨[[.int (r6.ij 1 0)]],[cD (GR a0 a1 a2 a3 a4 a5 a6 a7 a8 a9 FB FA a12 FD FE FG FI FL FJ FK) [(0,7)] (bY a7 (i : Int).toNat 0 [U.int (r6.i 0),U.int (r6.i 1),U.int (r6.i 2),U.lst (r6.l 3),U.int (r6.i 4),U.lst (r6.l 5),U.lst (r6.l 6),U.lst (r6.l 7),U.int (r6.i 8),U.lst (r6.l 9)])]⟩) else ((OZ.c FD FE p ac o a0).bind fun r7=>bif !r7.bj 1 0 then (some ⟨[[.int 0]],[cD (GR a0 a1 a2 a3 a4 a5 a6 a7 a8 a9 FB FA a12 FD FE FG FI FL FJ FK) [(0,7)] (bY a7 (i : Int).toNat 0 [U.int (r6.i 0),U.int (r6.i 1),U.int (r6.i 2),U.lst (r6.l 3),U.int (r6.i 4),U.lst (r6.l 5),U.lst (r6.l 6),U.lst (r6.l 7),U.int (r6.i 8),U.lst (r6.l 9)])]⟩) else (EK (dE (i : Int) a7.length) ((Pa.c FA (gi a7 (i : Int) 0) 1).bind fun r8=>bif !r8.bj 1 0 then (some ⟨[[.int 5]],[cD (GR a0 a1 a2 a3 a4 a5 a6 a7 a8 a9 FB FA a12 FD FE FG FI FL FJ FK) [(0,7)] (bY a7 (i : Int).toNat 0 [U.int (r6.i 0),U.int (r6.i 1),U.int (r6.i 2),U.lst (r6.l 3),U.int (r6.i 4),U.lst (r6.l 5),U.lst (r6.l 6),U.lst (r6.l 7),U.int (r6.i 8),U.lst (r6.l 9)])]⟩) else (some ⟨[[.int 1]],[bY (bY (cD (GR a0 a1 a2 a3 a4 a5 a6 a7 a8 a9 FB FA a12 FD FE FG FI FL FJ FK) [(0,7)] (bY a7 (i : Int).toNat 0 [U.int (r6.i 0),U.int (r6.i 1),U.int (r6.i 2),U.lst (r6.l 3),U.int (r6.i 4),U.lst (r6.l 5),U.lst (r6.l 6),U.lst (r6.l 7),U.int (r6.i 8),U.lst (r6.l 9)])) 0 14 [U.lst (r7.l 0)]) 0 11 [U.lst (r8.l 0)]]⟩)))))))
theorem aau (a0 : Int) (a1 a2 a3 a4 : List (List U)) (a5 : Int) (a6 a7 a8 a9 : List (List U)) (FB : Int) (FA a12 FD FE FG FI : List (List U)) (FL : Int) (FJ FK : List (List U)) {i : Nat} (hi : i < a7.length) (h6 : a6.length ≤ 1048576) (h7 : WR Fv.ct 167 a7) (b7 : Fy a7 ≤ 1048576) (lf : FA.length ≤ 1048576) (Lb : FD.length ≤ 1048576) (Lc : FE.length ≤ 1048576) (n m p d g ac o now : Int) : Wu a0 a1 a2 a3 a4 a5 a6 a7 a8 a9 FB FA a12 FD FE FG FI FL FJ FK i n m p d g ac o now = QQ a0 a1 a2 a3 a4 a5 a6 a7 a8 a9 FB FA a12 FD FE FG FI FL FJ FK i n m p d g ac o now:=by
 unfold Wu QQ
 rw [ad6 a0 a1 a2 a3 a4 a5 a6 a7 a8 a9 FB FA a12 FD FE FG FI FL FJ FK h6 n,q0,FU hi,Hv,ad3 (ZH h7 b7 hi),q0]
 refine Eq.trans (b:=bif !decide ((Ns a5 a6 a7 i n m d g ac o now) = 1) then (some ⟨[[.int (Ns a5 a6 a7 i n m d g ac o now)]],[(GR a0 a1 a2 a3 a4 a5 a6 (bY a7 i 0 [U.int (gi a7 (i : Int) 0),U.int (gi a7 (i : Int) 1),U.int (gi a7 (i : Int) 2),U.lst (gl a7 (i : Int) 3),U.int (gi a7 (i : Int) 4),U.lst (GW (gl a7 (i : Int) 5)),U.lst (gl a7 (i : Int) 6),U.lst (gl a7 (i : Int) 7),U.int (gi a7 (i : Int) 8),U.lst (LH a5 a6 a7 i n m d g ac o now)]) a8 a9 FB FA a12 FD FE FG FI FL FJ FK)]⟩) else ((OZ.c FD FE p ac o a0).bind fun r7=>bif !r7.bj 1 0 then (some ⟨[[.int 0]],[(GR a0 a1 a2 a3 a4 a5 a6 (bY a7 i 0 [U.int (gi a7 (i : Int) 0),U.int (gi a7 (i : Int) 1),U.int (gi a7 (i : Int) 2),U.lst (gl a7 (i : Int) 3),U.int (gi a7 (i : Int) 4),U.lst (GW (gl a7 (i : Int) 5)),U.lst (gl a7 (i : Int) 6),U.lst (gl a7 (i : Int) 7),U.int (gi a7 (i : Int) 8),U.lst (LH a5 a6 a7 i n m d g ac o now)]) a8 a9 FB FA a12 FD FE FG FI FL FJ FK)]⟩) else ((Pa.c FA (gi a7 (i : Int) 0) 1).bind fun r8=>bif !r8.bj 1 0 then (some ⟨[[.int 5]],[(GR a0 a1 a2 a3 a4 a5 a6 (bY a7 i 0 [U.int (gi a7 (i : Int) 0),U.int (gi a7 (i : Int) 1),U.int (gi a7 (i : Int) 2),U.lst (gl a7 (i : Int) 3),U.int (gi a7 (i : Int) 4),U.lst (GW (gl a7 (i : Int) 5)),U.lst (gl a7 (i : Int) 6),U.lst (gl a7 (i : Int) 7),U.int (gi a7 (i : Int) 8),U.lst (LH a5 a6 a7 i n m d g ac o now)]) a8 a9 FB FA a12 FD FE FG FI FL FJ FK)]⟩) else (some ⟨[[.int 1]],[(GR a0 a1 a2 a3 a4 a5 a6 (bY a7 i 0 [U.int (gi a7 (i : Int) 0),U.int (gi a7 (i : Int) 1),U.int (gi a7 (i : Int) 2),U.lst (gl a7 (i : Int) 3),U.int (gi a7 (i : Int) 4),U.lst (GW (gl a7 (i : Int) 5)),U.lst (gl a7 (i : Int) 6),U.lst (gl a7 (i : Int) 7),U.int (gi a7 (i : Int) 8),U.lst (LH a5 a6 a7 i n m d g ac o now)]) a8 a9 FB (r8.l 0) a12 FD (r7.l 0) FG FI FL FJ FK)]⟩)))) (by kernel_rfl) ?_
 rw [adY _ _ Lb Lc,aeL _ lf,ZF h7 hi,q0]
 unfold SN Ox Pz QP
 cases decide ((Ns a5 a6 a7 i n m d g ac o now) = 1)
 ·kernel_rfl
 cases MJ FD FE p ac o a0
 ·kernel_rfl
 cases MV FA (gi a7 (i : Int) 0) 1 <;> kernel_rfl
theorem aeo (a0 : Int) (a1 a2 a3 a4 : List (List U)) (a5 : Int) (a6 a7 a8 a9 : List (List U)) (FB : Int) (FA a12 FD FE FG FI : List (List U)) (FL : Int) (FJ FK : List (List U)) {i : Nat} (hi : i < a7.length) (h6 : a6.length ≤ 1048576) (h7 : WR Fv.ct 167 a7) (b7 : Fy a7 ≤ 1048576) (lf : FA.length ≤ 1048576) (Lb : FD.length ≤ 1048576) (Lc : FE.length ≤ 1048576) (n gr r p d g ac o now : Int) (hm : Qa.c a12 gr p ac a0 = rI r) :
  Qd.c a0 a1 a2 a3 a4 a5 a6 a7 a8 a9 FB FA a12 FD FE FG FI FL FJ FK (i : Int) n gr p d g ac o now (GR a0 a1 a2 a3 a4 a5 a6 a7 a8 a9 FB FA a12 FD FE FG FI FL FJ FK) = bif decide (PA gr r p = 0) then some ⟨[[.int 4]],[(GR a0 a1 a2 a3 a4 a5 a6 a7 a8 a9 FB FA a12 FD FE FG FI FL FJ FK)]⟩ else QQ a0 a1 a2 a3 a4 a5 a6 a7 a8 a9 FB FA a12 FD FE FG FI FL FJ FK i n (PA gr r p) p d g ac o now:=by
 have t1:=aau a0 a1 a2 a3 a4 a5 a6 a7 a8 a9 FB FA a12 FD FE FG FI FL FJ FK hi h6 h7 b7 lf Lb Lc n r p d g ac o now
 have t2:=aau a0 a1 a2 a3 a4 a5 a6 a7 a8 a9 FB FA a12 FD FE FG FI FL FJ FK hi h6 h7 b7 lf Lb Lc n p p d g ac o now
 rw [Qd.eq]
 refine Eq.trans (b:=bif !decide (gr = 0) then ((Qa.c a12 gr p ac a0).bind fun r0=>bif decide (r0.i 0 = 0) then (some ⟨[[.int 4]],[(GR a0 a1 a2 a3 a4 a5 a6 a7 a8 a9 FB FA a12 FD FE FG FI FL FJ FK)]⟩) else Wu a0 a1 a2 a3 a4 a5 a6 a7 a8 a9 FB FA a12 FD FE FG FI FL FJ FK i n (r0.i 0) p d g ac o now) else (bif decide (p = 0) then (some ⟨[[.int 4]],[(GR a0 a1 a2 a3 a4 a5 a6 a7 a8 a9 FB FA a12 FD FE FG FI FL FJ FK)]⟩) else Wu a0 a1 a2 a3 a4 a5 a6 a7 a8 a9 FB FA a12 FD FE FG FI FL FJ FK i n p p d g ac o now)) (by kernel_rfl) ?_
 unfold PA
 rw [hm,t2]
 cases decide (gr = 0)
 ·show (bif decide (r = 0) then _ else _) = (bif decide (r = 0) then _ else _)
  cases decide (r = 0)
  ·exact t1
  ·rfl
 ·rfl
noncomputable def Wt (a0 : Int) (a1 a2 a3 a4 : List (List U)) (a5 : Int) (a6 a7 a8 a9 : List (List U)) (FB : Int) (FA a12 FD FE FG FI : List (List U)) (FL : Int) (FJ FK : List (List U)) (i : Nat) (n m p d g ac o now : Int) : O:=((Po.c a0 a1 a2 a3 a4 a5 a6 a7 a8 a9 FB FA a12 FD FE FG FI FL FJ FK n).bind fun r5=>EK (dE (i : Int) a7.length) ((Pn.c (gi a7 (i : Int) 0) (gi a7 (i : Int) 1) (gi a7 (i : Int) 2) (gl a7 (i : Int) 3) (gi a7 (i : Int) 4) (gl a7 (i : Int) 5) (gl a7 (i : Int) 6) (gl a7 (i : Int) 7) (gi a7 (i : Int) 8) (gl a7 (i : Int) 9) a5 (r5.i 0) (r5.i 1) (r5.i 2) (r5.i 3) (r5.i 4) (r5.i 5) m d g ac o now).bind fun r6=>EK (dE (i : Int) a7.length) (bif !decide (r6.ij 1 0 = 1) then (some ⟨[[.int (r6.ij 1 0)]],[cD (GR a0 a1 a2 a3 a4 a5 a6 a7 a8 a9 FB FA a12 FD FE FG FI FL FJ FK) [(0,7)] (bY a7 (i : Int).toNat 0 [U.int (r6.i 0),U.int (r6.i 1),U.int (r6.i 2),U.lst (r6.l 3),U.int (r6.i 4),U.lst (r6.l 5),U.lst (r6.l 6),U.lst (r6.l 7),U.int (r6.i 8),U.lst (r6.l 9)])]⟩) else ((Ot.c (ul ((cD (GR a0 a1 a2 a3 a4 a5 a6 a7 a8 a9 FB FA a12 FD FE FG FI FL FJ FK) [(0,7)] (bY a7 (i : Int).toNat 0 [U.int (r6.i 0),U.int (r6.i 1),U.int (r6.i 2),U.lst (r6.l 3),U.int (r6.i 4),U.lst (r6.l 5),U.lst (r6.l 6),U.lst (r6.l 7),U.int (r6.i 8),U.lst (r6.l 9)])).getD 0 []) 13) (ul ((cD (GR a0 a1 a2 a3 a4 a5 a6 a7 a8 a9 FB FA a12 FD FE FG FI FL FJ FK) [(0,7)] (bY a7 (i : Int).toNat 0 [U.int (r6.i 0),U.int (r6.i 1),U.int (r6.i 2),U.lst (r6.l 3),U.int (r6.i 4),U.lst (r6.l 5),U.lst (r6.l 6),U.lst (r6.l 7),U.int (r6.i 8),U.lst (r6.l 9)])).getD 0 []) 14) p ac o (ui ((cD (GR a0 a1 a2 a3 a4 a5 a6 a7 a8 a9 FB FA a12 FD FE FG FI FL FJ FK) [(0,7)] (bY a7 (i : Int).toNat 0 [U.int (r6.i 0),U.int (r6.i 1),U.int (r6.i 2),U.lst (r6.l 3),U.int (r6.i 4),U.lst (r6.l 5),U.lst (r6.l 6),U.lst (r6.l 7),U.int (r6.i 8),U.lst (r6.l 9)])).getD 0 []) 0)).bind fun r7=>bif !r7.bj 1 0 then (some ⟨[[.int 0]],[cD (GR a0 a1 a2 a3 a4 a5 a6 a7 a8 a9 FB FA a12 FD FE FG FI FL FJ FK) [(0,7)] (bY a7 (i : Int).toNat 0 [U.int (r6.i 0),U.int (r6.i 1),U.int (r6.i 2),U.lst (r6.l 3),U.int (r6.i 4),U.lst (r6.l 5),U.lst (r6.l 6),U.lst (r6.l 7),U.int (r6.i 8),U.lst (r6.l 9)])]⟩) else ((Ow.c (ul ((cD (GR a0 a1 a2 a3 a4 a5 a6 a7 a8 a9 FB FA a12 FD FE FG FI FL FJ FK) [(0,7)] (bY a7 (i : Int).toNat 0 [U.int (r6.i 0),U.int (r6.i 1),U.int (r6.i 2),U.lst (r6.l 3),U.int (r6.i 4),U.lst (r6.l 5),U.lst (r6.l 6),U.lst (r6.l 7),U.int (r6.i 8),U.lst (r6.l 9)])).getD 0 []) 11) (r6.i 0) 1).bind fun r8=>bif !r8.bj 1 0 then (some ⟨[[.int 5]],[cD (GR a0 a1 a2 a3 a4 a5 a6 a7 a8 a9 FB FA a12 FD FE FG FI FL FJ FK) [(0,7)] (bY a7 (i : Int).toNat 0 [U.int (r6.i 0),U.int (r6.i 1),U.int (r6.i 2),U.lst (r6.l 3),U.int (r6.i 4),U.lst (r6.l 5),U.lst (r6.l 6),U.lst (r6.l 7),U.int (r6.i 8),U.lst (r6.l 9)])]⟩) else (some ⟨[[.int 1]],[bY (bY (cD (GR a0 a1 a2 a3 a4 a5 a6 a7 a8 a9 FB FA a12 FD FE FG FI FL FJ FK) [(0,7)] (bY a7 (i : Int).toNat 0 [U.int (r6.i 0),U.int (r6.i 1),U.int (r6.i 2),U.lst (r6.l 3),U.int (r6.i 4),U.lst (r6.l 5),U.lst (r6.l 6),U.lst (r6.l 7),U.int (r6.i 8),U.lst (r6.l 9)])) 0 14 [U.lst (r7.l 0)]) 0 11 [U.lst (r8.l 0)]]⟩))))))
theorem Zj (a0 : Int) (a1 a2 a3 a4 : List (List U)) (a5 : Int) (a6 a7 a8 a9 : List (List U)) (FB : Int) (FA a12 FD FE FG FI : List (List U)) (FL : Int) (FJ FK : List (List U)) {i : Nat} (hi : i < a7.length) (h6 : a6.length ≤ 1048576) (h7 : WR Fv.ct 167 a7) (b7 : Fy a7 ≤ 1048576) (lf : FA.length ≤ 1048576) (Lb : FD.length ≤ 1048576) (Lc : FE.length ≤ 1048576) (n m p d g ac o now : Int) : Wt a0 a1 a2 a3 a4 a5 a6 a7 a8 a9 FB FA a12 FD FE FG FI FL FJ FK i n m p d g ac o now = QQ a0 a1 a2 a3 a4 a5 a6 a7 a8 a9 FB FA a12 FD FE FG FI FL FJ FK i n m p d g ac o now:=by
 unfold Wt QQ
 rw [acE a0 a1 a2 a3 a4 a5 a6 a7 a8 a9 FB FA a12 FD FE FG FI FL FJ FK h6 n,q0,FU hi,Hv,acB (ZH h7 b7 hi),q0]
 refine Eq.trans (b:=bif !decide ((Ns a5 a6 a7 i n m d g ac o now) = 1) then (some ⟨[[.int (Ns a5 a6 a7 i n m d g ac o now)]],[(GR a0 a1 a2 a3 a4 a5 a6 (bY a7 i 0 [U.int (gi a7 (i : Int) 0),U.int (gi a7 (i : Int) 1),U.int (gi a7 (i : Int) 2),U.lst (gl a7 (i : Int) 3),U.int (gi a7 (i : Int) 4),U.lst (GW (gl a7 (i : Int) 5)),U.lst (gl a7 (i : Int) 6),U.lst (gl a7 (i : Int) 7),U.int (gi a7 (i : Int) 8),U.lst (LH a5 a6 a7 i n m d g ac o now)]) a8 a9 FB FA a12 FD FE FG FI FL FJ FK)]⟩) else ((Ot.c FD FE p ac o a0).bind fun r7=>bif !r7.bj 1 0 then (some ⟨[[.int 0]],[(GR a0 a1 a2 a3 a4 a5 a6 (bY a7 i 0 [U.int (gi a7 (i : Int) 0),U.int (gi a7 (i : Int) 1),U.int (gi a7 (i : Int) 2),U.lst (gl a7 (i : Int) 3),U.int (gi a7 (i : Int) 4),U.lst (GW (gl a7 (i : Int) 5)),U.lst (gl a7 (i : Int) 6),U.lst (gl a7 (i : Int) 7),U.int (gi a7 (i : Int) 8),U.lst (LH a5 a6 a7 i n m d g ac o now)]) a8 a9 FB FA a12 FD FE FG FI FL FJ FK)]⟩) else ((Ow.c FA (gi a7 (i : Int) 0) 1).bind fun r8=>bif !r8.bj 1 0 then (some ⟨[[.int 5]],[(GR a0 a1 a2 a3 a4 a5 a6 (bY a7 i 0 [U.int (gi a7 (i : Int) 0),U.int (gi a7 (i : Int) 1),U.int (gi a7 (i : Int) 2),U.lst (gl a7 (i : Int) 3),U.int (gi a7 (i : Int) 4),U.lst (GW (gl a7 (i : Int) 5)),U.lst (gl a7 (i : Int) 6),U.lst (gl a7 (i : Int) 7),U.int (gi a7 (i : Int) 8),U.lst (LH a5 a6 a7 i n m d g ac o now)]) a8 a9 FB FA a12 FD FE FG FI FL FJ FK)]⟩) else (some ⟨[[.int 1]],[(GR a0 a1 a2 a3 a4 a5 a6 (bY a7 i 0 [U.int (gi a7 (i : Int) 0),U.int (gi a7 (i : Int) 1),U.int (gi a7 (i : Int) 2),U.lst (gl a7 (i : Int) 3),U.int (gi a7 (i : Int) 4),U.lst (GW (gl a7 (i : Int) 5)),U.lst (gl a7 (i : Int) 6),U.lst (gl a7 (i : Int) 7),U.int (gi a7 (i : Int) 8),U.lst (LH a5 a6 a7 i n m d g ac o now)]) a8 a9 FB (r8.l 0) a12 FD (r7.l 0) FG FI FL FJ FK)]⟩)))) (by kernel_rfl) ?_
 rw [acw _ _ Lb Lc,ado _ lf,ZF h7 hi,q0]
 unfold SN Ox Pz QP
 cases decide ((Ns a5 a6 a7 i n m d g ac o now) = 1)
 ·kernel_rfl
 cases MJ FD FE p ac o a0
 ·kernel_rfl
 cases MV FA (gi a7 (i : Int) 0) 1 <;> kernel_rfl
theorem acY (a0 : Int) (a1 a2 a3 a4 : List (List U)) (a5 : Int) (a6 a7 a8 a9 : List (List U)) (FB : Int) (FA a12 FD FE FG FI : List (List U)) (FL : Int) (FJ FK : List (List U)) {i : Nat} (hi : i < a7.length) (h6 : a6.length ≤ 1048576) (h7 : WR Fv.ct 167 a7) (b7 : Fy a7 ≤ 1048576) (lf : FA.length ≤ 1048576) (Lb : FD.length ≤ 1048576) (Lc : FE.length ≤ 1048576) (n gr r p d g ac o now : Int) (hm : Pt.c a12 gr p ac a0 = rI r) :
  Pv.c (i : Int) n gr p d g ac o now (GR a0 a1 a2 a3 a4 a5 a6 a7 a8 a9 FB FA a12 FD FE FG FI FL FJ FK) = bif decide (PA gr r p = 0) then some ⟨[[.int 4]],[(GR a0 a1 a2 a3 a4 a5 a6 a7 a8 a9 FB FA a12 FD FE FG FI FL FJ FK)]⟩ else QQ a0 a1 a2 a3 a4 a5 a6 a7 a8 a9 FB FA a12 FD FE FG FI FL FJ FK i n (PA gr r p) p d g ac o now:=by
 have t1:=Zj a0 a1 a2 a3 a4 a5 a6 a7 a8 a9 FB FA a12 FD FE FG FI FL FJ FK hi h6 h7 b7 lf Lb Lc n r p d g ac o now
 have t2:=Zj a0 a1 a2 a3 a4 a5 a6 a7 a8 a9 FB FA a12 FD FE FG FI FL FJ FK hi h6 h7 b7 lf Lb Lc n p p d g ac o now
 rw [Pv.eq]
 refine Eq.trans (b:=bif !decide (gr = 0) then ((Pt.c a12 gr p ac a0).bind fun r0=>bif decide (r0.i 0 = 0) then (some ⟨[[.int 4]],[(GR a0 a1 a2 a3 a4 a5 a6 a7 a8 a9 FB FA a12 FD FE FG FI FL FJ FK)]⟩) else Wt a0 a1 a2 a3 a4 a5 a6 a7 a8 a9 FB FA a12 FD FE FG FI FL FJ FK i n (r0.i 0) p d g ac o now) else (bif decide (p = 0) then (some ⟨[[.int 4]],[(GR a0 a1 a2 a3 a4 a5 a6 a7 a8 a9 FB FA a12 FD FE FG FI FL FJ FK)]⟩) else Wt a0 a1 a2 a3 a4 a5 a6 a7 a8 a9 FB FA a12 FD FE FG FI FL FJ FK i n p p d g ac o now)) (by kernel_rfl) ?_
 unfold PA
 rw [hm,t2]
 cases decide (gr = 0)
 ·show (bif decide (r = 0) then _ else _) = (bif decide (r = 0) then _ else _)
  cases decide (r = 0)
  ·exact t1
  ·rfl
 ·rfl
theorem adt (a0 : Int) (a1 a2 a3 a4 : List (List U)) (a5 : Int) (a6 a7 a8 a9 : List (List U)) (FB : Int) (FA a12 FD FE FG FI : List (List U)) (FL : Int) (FJ FK : List (List U)) {i : Nat} (hi : i < a7.length) (h6 : a6.length ≤ 1048576) (h7 : WR Fv.ct 167 a7) (c7 : Fy a7 ≤ 1048576) (lf : WR Fv.ct 182 FA) (Gn : Fy FA ≤ 1048576) (Pj : WR Fv.ct 185 a12) (Gq : Fy a12 ≤ 1048576) (Lb : FD.length ≤ 1048576) (Lc : WR Fv.ct 192 FE) (Gz : Fy FE ≤ 1048576) (n gr p d g ac o now : Int) (rp : Gr p) (rac : Gr ac) (ro : Gr o) :
  ∃ (c : Int) (b7 Hn LQ : LL),Qd.c a0 a1 a2 a3 a4 a5 a6 a7 a8 a9 FB FA a12 FD FE FG FI FL FJ FK (i : Int) n gr p d g ac o now (GR a0 a1 a2 a3 a4 a5 a6 a7 a8 a9 FB FA a12 FD FE FG FI FL FJ FK) = some ⟨[[.int c]],[(GR a0 a1 a2 a3 a4 a5 a6 b7 a8 a9 FB Hn a12 FD LQ FG FI FL FJ FK)]⟩ ∧ Pv.c (i : Int) n gr p d g ac o now (GR a0 a1 a2 a3 a4 a5 a6 a7 a8 a9 FB FA a12 FD FE FG FI FL FJ FK) = some ⟨[[.int c]],[(GR a0 a1 a2 a3 a4 a5 a6 b7 a8 a9 FB Hn a12 FD LQ FG FI FL FJ FK)]⟩ ∧ Gr c ∧ WR Fv.ct 167 b7 ∧ Fy b7 ≤ 1099511627776 ∧ i < b7.length ∧ (ui (b7.getD i []) 0 = ui (a7.getD i []) 0 ∧ ui (b7.getD i []) 1 = ui (a7.getD i []) 1) ∧ WR Fv.ct 182 Hn ∧ Fy Hn ≤ 1048577 ∧ WR Fv.ct 192 LQ ∧ Fy LQ ≤ 1048577:=by
 have Xm:=FP FA
 have Zo:=FP FE
 obtain ⟨r,m1,m2,m3⟩:=adG Pj Gq gr p ac a0
 rw [aeo a0 a1 a2 a3 a4 a5 a6 a7 a8 a9 FB FA a12 FD FE FG FI FL FJ FK hi h6 h7 c7 (by omega) Lb (by omega) n gr r p d g ac o now m1,acY a0 a1 a2 a3 a4 a5 a6 a7 a8 a9 FB FA a12 FD FE FG FI FL FJ FK hi h6 h7 c7 (by omega) Lb (by omega) n gr r p d g ac o now m2]
 generalize (PA gr r p) = M
 cases decide (M = 0)
 rotate_left
 ·exact ⟨4,a7,FA,FE,rfl,rfl,by unfold Gr; omega,h7,by omega,hi,⟨rfl,rfl⟩,lf,by omega,Lc,by omega⟩
 obtain ⟨v1,v2,v3⟩:=aeV h7 c7 hi
 have hj : WR Fv.ct 286 (LH a5 a6 a7 i n M d g ac o now) ∧ (LH a5 a6 a7 i n M d g ac o now).length ≤ 1048577:=aaQ v1 v2 ..
 obtain ⟨q1,q2⟩:=adO h7 c7 hi hj.1 hj.2
 have hK : Gr (Ns a5 a6 a7 i n M d g ac o now):=aaP v1 ..
 have bD : (NL a7 i (LH a5 a6 a7 i n M d g ac o now)).getD i [] = [U.int (gi a7 (i : Int) 0),U.int (gi a7 (i : Int) 1),U.int (gi a7 (i : Int) 2),U.lst (gl a7 (i : Int) 3),U.int (gi a7 (i : Int) 4),U.lst (GW (gl a7 (i : Int) 5)),U.lst (gl a7 (i : Int) 6),U.lst (gl a7 (i : Int) 7),U.int (gi a7 (i : Int) 8),U.lst (LH a5 a6 a7 i n M d g ac o now)]:=by unfold NL; rw [aeQ hi,if_pos rfl]
 refine ⟨SN a0 a5 a6 a7 FA FD FE i n M p d g ac o now,NL a7 i (LH a5 a6 a7 i n M d g ac o now),Ox a0 a5 a6 a7 FA FD FE i n M p d g ac o now,Pz a0 a5 a6 a7 FA FD FE i n M p d g ac o now,rfl,rfl,?_,q1,q2,by unfold NL; rw [qQl]; exact hi,⟨by rw [bD]; rfl,by rw [bD]; rfl⟩,?_⟩
 ·unfold SN
  cases decide ((Ns a5 a6 a7 i n M d g ac o now) = 1)
  ·exact hK
  cases MJ FD FE p ac o a0
  ·show Gr 0; unfold Gr; omega
  cases MV FA (gi a7 (i : Int) 0) 1
  ·show Gr 5; unfold Gr; omega
  ·show Gr 1; unfold Gr; omega
 ·unfold Ox Pz
  cases hO : QP a0 a5 a6 a7 FA FD FE i n M p d g ac o now
  ·exact ⟨lf,by show Fy FA ≤ _; omega,Lc,by show Fy FE ≤ _; omega⟩
  ·unfold QP MJ Pe at hO
   simp only [qQi] at hO
   have w:=Gx hO.2.1.1.2.2.2
   obtain ⟨t1,t2⟩:=afo lf Gn (gi a7 (i : Int) 0) 1
   obtain ⟨u1,u2⟩:=aaK (l:=FD) Lc Gz rp rac ro (show Gr a0 by unfold Gr; omega)
   exact ⟨t1,t2,u1,u2⟩
end Go.Proofs.YtaghmjcfaplkiaaGreat.Eng
/- half -/
