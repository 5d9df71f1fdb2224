/- Copies of worlds are what is copied. -/
import Derived.Test.YtaghmjcfaplkiaaGreatPCp
namespace Go.Proofs.YtaghmjcfaplkiaaGreat.Eng
open Go.RowKit
set_option linter.unusedVariables false
set_option linter.unusedSimpArgs false
set_option linter.unusedSectionVars false
set_option maxRecDepth 100000
variable [Sm]
theorem ZE {xs : LL} (h : WR Fv.ct 167 xs) : xs.map (fun x=>[U.int (ui x 0),U.int (ui x 1),U.int (ui x 2),U.lst (ul x 3),U.int (ui x 4),U.lst (GW (ul x 5)),U.lst (ul x 6),U.lst (ul x 7),U.int (ui x 8),U.lst (ul x 9)]) = xs:=OC fun x hx=>by
 obtain ⟨c0,c1,c2,c3,c4,c5,c6,c7,c8,c9,rfl,_,h5,_⟩:=OY (h.2 x hx)
 show [U.int c0,U.int c1,U.int c2,U.lst c3,U.int c4,U.lst (GW c5),U.lst c6,U.lst c7,U.int c8,U.lst c9] = _
 rw [Vo h5]
theorem aaF {xs : LL} (h : WR Fv.ct 90 xs) : xs.map (fun x=>[U.lst (ul x 0)]) = xs:=OC fun x hx=>by
 obtain ⟨c0,rfl,_⟩:=Rl (h.2 x hx); rfl
theorem acL (xs : LL) (h : WR Fv.ct 90 xs) (hc : Fy xs ≤ 1048576) : Me.c xs = rL xs:=by
 have hl:=FP xs
 rw [Me.eq]
 refine (Lx (l0:=fun i acc=>Me.l0 xs _ i acc) (xs:=xs) (f:=fun x=>[U.lst (ul x 0)]) (R:=fun acc=>rL acc) (fun acc ha=>?_) fun i hi acc ha=>?_).trans (qQq rL (aaF h))
 ·rw [Me.Fx,FO (qQb _)]; rfl
 ·have h1:=sub_lt hi 0
  have h2:=FP (ul (xs.getD i []) 0)
  rw [Me.Fx,FN hi,FU hi,FZ (by omega)]
  show EK (room (0 + (ul (xs.getD i []) 0).length) 72) (EK (room (acc.length + 1) 24) _) = _
  rw [FV (by omega) (by omega),FV (by omega) (by omega)]; rfl
theorem ZG {a7 : LL} {i : Nat} (hi : i < a7.length) (b7 : Fy a7 ≤ 1048576) : (gl a7 (i : Int) 3).length ≤ 1099511627776 ∧ Fy (gl a7 (i : Int) 5) ≤ 1099511627776 ∧ (gl a7 (i : Int) 6).length ≤ 1099511627776 ∧ (gl a7 (i : Int) 7).length ≤ 1099511627776 ∧ (gl a7 (i : Int) 9).length ≤ 1099511627776:=by
 have k:=fun j=>sub_lt hi j
 have m:=fun j=>FP (ul (a7.getD i []) j)
 have k3:=k 3; have k5:=k 5; have k6:=k 6; have k7:=k 7; have k9:=k 9
 have m3:=m 3; have m6:=m 6; have m7:=m 7; have m9:=m 9
 refine ⟨?_,?_,?_,?_,?_⟩
 ·show (ul (a7.getD i []) 3).length ≤ _; omega
 ·show Fy (ul (a7.getD i []) 5) ≤ _; omega
 ·show (ul (a7.getD i []) 6).length ≤ _; omega
 ·show (ul (a7.getD i []) 7).length ≤ _; omega
 ·show (ul (a7.getD i []) 9).length ≤ _; omega
theorem aee (a0 : Int) (a1 a2 a3 a4 : List (List U)) (a5 : Int) (a6 a7 a8 a9 : List (List U)) (FB : Int) (FA a12 FD FE FG FI : List (List U)) (FL : Int) (FJ FK : List (List U)) (h1 : WR Fv.ct 252 a1) (h2 : WR Fv.ct 164 a2) (h7 : WR Fv.ct 167 a7) (h9 : WR Fv.ct 90 a9) (Pj : WR Fv.ct 185 a12) (RY : WR Fv.ct 94 FJ) (b1 : Fy a1 ≤ 1048576) (b2 : Fy a2 ≤ 1048576) (b3 : Fy a3 ≤ 1048576) (b4 : Fy a4 ≤ 1048576) (b6 : Fy a6 ≤ 1048576) (b7 : Fy a7 ≤ 1048576) (b8 : Fy a8 ≤ 1048576) (b9 : Fy a9 ≤ 1048576) (Hn : Fy FA ≤ 1048576) (WA : Fy a12 ≤ 1048576) (b13 : Fy FD ≤ 1048576) (LQ : Fy FE ≤ 1048576) (b15 : Fy FG ≤ 1048576) (b16 : Fy FI ≤ 1048576) (WB : Fy FJ ≤ 1048576) (b19 : Fy FK ≤ 1048576) : HL.c a0 a1 a2 a3 a4 a5 a6 a7 a8 a9 FB FA a12 FD FE FG FI FL FJ FK = some ⟨[[.int a0,.lst a1,.lst a2,.lst a3,.lst a4,.int a5,.lst a6,.lst a7,.lst a8,.lst a9,.int FB,.lst FA,.lst a12,.lst FD,.lst FE,.lst FG,.lst FI,.int FL,.lst FJ,.lst FK]],[]⟩:=by
 have l1:=FP a1
 have l2:=FP a2
 have l3:=FP a3
 have l4:=FP a4
 have l6:=FP a6
 have l7:=FP a7
 have l8:=FP a8
 have l9:=FP a9
 have Xm:=FP FA
 have l12:=FP a12
 have l13:=FP FD
 have Zo:=FP FE
 have l15:=FP FG
 have l16:=FP FI
 have l18:=FP FJ
 have l19:=FP FK
 have WO : room (0 + FA.length) 16 = true:=FV (by omega) (by omega)
 have WQ : room (0 + FD.length) 24 = true:=FV (by omega) (by omega)
 have WS : room (0 + FE.length) 32 = true:=FV (by omega) (by omega)
 have WU : room (0 + FG.length) 8 = true:=FV (by omega) (by omega)
 have WV : room (0 + FI.length) 8 = true:=FV (by omega) (by omega)
 have WW : room (0 + FK.length) 80 = true:=FV (by omega) (by omega)
 have e8 : room (0 + a8.length) 1 = true:=FV (by omega) (by omega)
 have af2 : ∀ z1 z2 z3 z4 : Int,HL.l1 0 a0 a1 a2 a3 a4 a5 a6 a7 a8 a9 FB FA a12 FD FE FG FI FL FJ FK z1 z2 z3 z4 a0 a5 FB FA a12 FD FE FG FI FL FJ FK a1 a2 a3 a4 a6 a7 a8 [] = some ⟨[[.int a0,.lst a1,.lst a2,.lst a3,.lst a4,.int a5,.lst a6,.lst a7,.lst a8,.lst a9,.int FB,.lst FA,.lst a12,.lst FD,.lst FE,.lst FG,.lst FI,.int FL,.lst FJ,.lst FK]],[]⟩:=by
  intro z1 z2 z3 z4
  refine (Lx (l0:=fun i acc=>HL.l1 i a0 a1 a2 a3 a4 a5 a6 a7 a8 a9 FB FA a12 FD FE FG FI FL FJ FK z1 z2 z3 z4 a0 a5 FB FA a12 FD FE FG FI FL FJ FK a1 a2 a3 a4 a6 a7 a8 acc) (xs:=a9) (f:=fun x=>[U.lst (ul x 0)]) (R:=fun acc=>some ⟨[[.int a0,.lst a1,.lst a2,.lst a3,.lst a4,.int a5,.lst a6,.lst a7,.lst a8,.lst acc,.int FB,.lst FA,.lst a12,.lst FD,.lst FE,.lst FG,.lst FI,.int FL,.lst FJ,.lst FK]],[]⟩) (fun acc ha=>?_) fun i hi acc ha=>?_).trans (qQq (fun acc : LL=>(some ⟨[[.int a0,.lst a1,.lst a2,.lst a3,.lst a4,.int a5,.lst a6,.lst a7,.lst a8,.lst acc,.int FB,.lst FA,.lst a12,.lst FD,.lst FE,.lst FG,.lst FI,.int FL,.lst FJ,.lst FK]],[]⟩ : O)) (aaF h9))
  ·rw [HL.IE,show decide (((a9.length : Nat) : Int) < ln a9) = false from FO (qQb _),aeb a12 Pj WA,ad8 FJ RY WB,WO,WQ,WS,WU,WV,WW]; rfl
  ·have g1:=sub_lt hi 0
   have g2:=FP (ul (a9.getD i []) 0)
   rw [HL.IE,FN hi,FU hi,FZ (by omega)]
   show EK (room (0 + (ul (a9.getD i []) 0).length) 72) (EK (room (acc.length + 1) 24) _) = _
   rw [FV (by omega) (by omega),FV (by omega) (by omega)]; rfl
 rw [HL.eq,ad9 a5 h1 b1 h2 b2 b3 b4 b6]
 show HL.l0 0 a0 a1 a2 a3 a4 a5 a6 a7 a8 a9 FB FA a12 FD FE FG FI FL FJ FK 0 0 0 0 a0 a5 a8 a9 FB FA a12 FD FE FG FI FL FJ FK a1 a2 a3 a4 a6 [] = _
 refine (Lx (l0:=fun i acc=>HL.l0 i a0 a1 a2 a3 a4 a5 a6 a7 a8 a9 FB FA a12 FD FE FG FI FL FJ FK 0 0 0 0 a0 a5 a8 a9 FB FA a12 FD FE FG FI FL FJ FK a1 a2 a3 a4 a6 acc) (xs:=a7) (f:=fun x=>[U.int (ui x 0),U.int (ui x 1),U.int (ui x 2),U.lst (ul x 3),U.int (ui x 4),U.lst (GW (ul x 5)),U.lst (ul x 6),U.lst (ul x 7),U.int (ui x 8),U.lst (ul x 9)]) (R:=fun acc=>HL.l1 0 a0 a1 a2 a3 a4 a5 a6 a7 a8 a9 FB FA a12 FD FE FG FI FL FJ FK 0 0 0 0 a0 a5 FB FA a12 FD FE FG FI FL FJ FK a1 a2 a3 a4 a6 acc a8 []) (fun acc ha=>?_) fun i hi acc ha=>?_).trans ?_
 ·rw [HL.Fx,show decide (((a7.length : Nat) : Int) < ln a7) = false from FO (qQb _),e8]; rfl
 ·obtain ⟨g3,g5,g6,g7,g9⟩:=ZG hi b7
  rw [HL.Fx,FN hi,FU hi,FZ (by omega),aag _ _ _ _ _ _ _ _ _ _ g3 g5 g6 g7 g9]
  show EK (room (acc.length + 1) 160) _ = _
  rw [FV (by omega) (by omega)]; rfl
 ·rw [ZE h7]; exact af2 0 0 0 0
theorem acM (a0 : Int) (a1 a2 a3 a4 : List (List U)) (a5 : Int) (a6 a7 a8 a9 : List (List U)) (FB : Int) (FA a12 FD FE FG FI : List (List U)) (FL : Int) (FJ FK : List (List U)) (h1 : WR Fv.ct 252 a1) (h2 : WR Fv.ct 164 a2) (h7 : WR Fv.ct 167 a7) (h9 : WR Fv.ct 90 a9) (Pj : WR Fv.ct 185 a12) (RY : WR Fv.ct 94 FJ) (b1 : Fy a1 ≤ 1048576) (b2 : Fy a2 ≤ 1048576) (b3 : Fy a3 ≤ 1048576) (b4 : Fy a4 ≤ 1048576) (b6 : Fy a6 ≤ 1048576) (b7 : Fy a7 ≤ 1048576) (b8 : Fy a8 ≤ 1048576) (b9 : Fy a9 ≤ 1048576) (Hn : Fy FA ≤ 1048576) (WA : Fy a12 ≤ 1048576) (b13 : Fy FD ≤ 1048576) (LQ : Fy FE ≤ 1048576) (b15 : Fy FG ≤ 1048576) (b16 : Fy FI ≤ 1048576) (WB : Fy FJ ≤ 1048576) (b19 : Fy FK ≤ 1048576) : Lk.c a0 a1 a2 a3 a4 a5 a6 a7 a8 a9 FB FA a12 FD FE FG FI FL FJ FK = some ⟨[[.int a0,.lst a1,.lst a2,.lst a3,.lst a4,.int a5,.lst a6,.lst a7,.lst a8,.lst a9,.int FB,.lst FA,.lst a12,.lst FD,.lst FE,.lst FG,.lst FI,.int FL,.lst FJ,.lst FK]],[]⟩:=by
 have l1:=FP a1
 have l2:=FP a2
 have l3:=FP a3
 have l4:=FP a4
 have l6:=FP a6
 have l7:=FP a7
 have l8:=FP a8
 have l9:=FP a9
 have Xm:=FP FA
 have l12:=FP a12
 have l13:=FP FD
 have Zo:=FP FE
 have l15:=FP FG
 have l16:=FP FI
 have l18:=FP FJ
 have l19:=FP FK
 have WO : room (0 + FA.length) 16 = true:=FV (by omega) (by omega)
 have WQ : room (0 + FD.length) 24 = true:=FV (by omega) (by omega)
 have WS : room (0 + FE.length) 32 = true:=FV (by omega) (by omega)
 have WU : room (0 + FG.length) 8 = true:=FV (by omega) (by omega)
 have WV : room (0 + FI.length) 8 = true:=FV (by omega) (by omega)
 have WW : room (0 + FK.length) 80 = true:=FV (by omega) (by omega)
 have e8 : room (0 + a8.length) 1 = true:=FV (by omega) (by omega)
 rw [Lk.eq,acH a5 h1 b1 h2 b2 b3 b4 b6,acL a9 h9 b9,e8]
 show Lk.l0 a7 (ln a7) 0 a0 a1 a2 a3 a4 a5 a6 a7 a8 a9 FB FA a12 FD FE FG FI FL FJ FK 0 0 0 0 a0 a5 FB 0 a1 a2 a3 a4 a6 [] a8 a9 = _
 refine (Lx (l0:=fun i acc=>Lk.l0 a7 (ln a7) i a0 a1 a2 a3 a4 a5 a6 a7 a8 a9 FB FA a12 FD FE FG FI FL FJ FK 0 0 0 0 a0 a5 FB 0 a1 a2 a3 a4 a6 acc a8 a9) (xs:=a7) (f:=fun x=>[U.int (ui x 0),U.int (ui x 1),U.int (ui x 2),U.lst (ul x 3),U.int (ui x 4),U.lst (GW (ul x 5)),U.lst (ul x 6),U.lst (ul x 7),U.int (ui x 8),U.lst (ul x 9)]) (R:=fun acc=>some ⟨[[.int a0,.lst a1,.lst a2,.lst a3,.lst a4,.int a5,.lst a6,.lst acc,.lst a8,.lst a9,.int FB,.lst FA,.lst a12,.lst FD,.lst FE,.lst FG,.lst FI,.int FL,.lst FJ,.lst FK]],[]⟩) (fun acc ha=>?_) fun i hi acc ha=>?_).trans (qQq (fun acc : LL=>(some ⟨[[.int a0,.lst a1,.lst a2,.lst a3,.lst a4,.int a5,.lst a6,.lst acc,.lst a8,.lst a9,.int FB,.lst FA,.lst a12,.lst FD,.lst FE,.lst FG,.lst FI,.int FL,.lst FJ,.lst FK]],[]⟩ : O)) (ZE h7))
 ·rw [Lk.Fx,show decide (((a7.length : Nat) : Int) < ln a7) = false from FO (qQb _),acJ a12 Pj WA,acG FJ RY WB,WO,WQ,WS,WU,WV,WW]; rfl
 ·obtain ⟨g3,g5,g6,g7,g9⟩:=ZG hi b7
  rw [Lk.Fx,show decide ((i : Int) < ln a7) = true from FN hi,FU hi,FZ (by omega),YY _ _ _ _ _ _ _ _ _ _ g3 g5 g6 g7 g9]
  show EK (room (acc.length + 1) 160) _ = _
  rw [FV (by omega) (by omega)]; rfl
end Go.Proofs.YtaghmjcfaplkiaaGreat.Eng
/- half -/
