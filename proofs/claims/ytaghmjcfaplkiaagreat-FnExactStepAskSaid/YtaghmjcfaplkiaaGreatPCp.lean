/- Copies of centers and of worlds are what is copied. -/
import Derived.Test.YtaghmjcfaplkiaaGreatPA10
import Derived.Test.YtaghmjcfaplkiaaGreatPEm
namespace Go.Proofs.YtaghmjcfaplkiaaGreat.Eng
open Go.RowKit
set_option linter.unusedVariables false
set_option linter.unusedSimpArgs false
set_option linter.unusedSectionVars false
set_option maxRecDepth 100000
variable [Sm]
theorem OC {xs : LL} {f : List U → List U} (h : ∀ x ∈ xs,f x = x) : xs.map f = xs:=(qYu h).trans (qYg xs)
theorem aeb (xs : LL) (h : WR Fv.ct 185 xs) (hc : Fy xs ≤ 1048576) : MB.c xs = rL xs:=by
 have hl:=FP xs
 rw [MB.eq]
 refine (Lx (l0:=fun i acc=>MB.l0 xs i acc) (xs:=xs) (f:=fun x=>[U.int (ui x 0),U.int (ui x 1),U.int (ui x 2),U.lst (ul x 3),U.int (ui x 4),U.int (ui x 5),U.bool (ub x 6)]) (R:=fun acc=>rL acc) (fun acc ha=>?_) fun i hi acc ha=>?_).trans (qQq rL (OC fun x hx=>by obtain ⟨c0,c1,c2,c3,c4,c5,c6,rfl,_⟩:=PK (h.2 x hx); rfl))
 ·rw [MB.Fx,FO (qQb _)]; rfl
 ·have h1:=sub_lt hi 3
  have h2:=FP (ul (xs.getD i []) 3)
  rw [MB.Fx,FN hi,FU hi,FZ (by omega)]
  show EK (room (0 + (ul (xs.getD i []) 3).length) 8) (EK (room (acc.length + 1) 72) _) = _
  rw [FV (by omega) (by omega),FV (by omega) (by omega)]; rfl
theorem acJ (xs : LL) (h : WR Fv.ct 185 xs) (hc : Fy xs ≤ 1048576) : Mc.c xs = rL xs:=by
 have hl:=FP xs
 rw [Mc.eq]
 refine (Lx (l0:=fun i acc=>Mc.l0 xs _ i acc) (xs:=xs) (f:=fun x=>[U.int (ui x 0),U.int (ui x 1),U.int (ui x 2),U.lst (ul x 3),U.int (ui x 4),U.int (ui x 5),U.bool (ub x 6)]) (R:=fun acc=>rL acc) (fun acc ha=>?_) fun i hi acc ha=>?_).trans (qQq rL (OC fun x hx=>by obtain ⟨c0,c1,c2,c3,c4,c5,c6,rfl,_⟩:=PK (h.2 x hx); rfl))
 ·rw [Mc.Fx,FO (qQb _)]; rfl
 ·have h1:=sub_lt hi 3
  have h2:=FP (ul (xs.getD i []) 3)
  rw [Mc.Fx,FN hi,FU hi,FZ (by omega)]
  show EK (room (0 + (ul (xs.getD i []) 3).length) 8) (EK (room (acc.length + 1) 72) _) = _
  rw [FV (by omega) (by omega),FV (by omega) (by omega)]; rfl
theorem aec (xs : LL) (h : WR Fv.ct 252 xs) (hc : Fy xs ≤ 1048576) : MG.c xs = rL xs:=by
 have hl:=FP xs
 rw [MG.eq]
 refine (Lx (l0:=fun i acc=>MG.l0 xs i acc) (xs:=xs) (f:=fun x=>[U.int (ui x 0),U.lst (ul x 1),U.int (ui x 2)]) (R:=fun acc=>rL acc) (fun acc ha=>?_) fun i hi acc ha=>?_).trans (qQq rL (OC fun x hx=>by obtain ⟨c0,c1,c2,rfl,_⟩:=Ue (h.2 x hx); rfl))
 ·rw [MG.Fx,FO (qQb _)]; rfl
 ·have h1:=sub_lt hi 1
  have h2:=FP (ul (xs.getD i []) 1)
  rw [MG.Fx,FN hi,FU hi,FZ (by omega)]
  show EK (room (0 + (ul (xs.getD i []) 1).length) 8) (EK (room (acc.length + 1) 40) _) = _
  rw [FV (by omega) (by omega),FV (by omega) (by omega)]; rfl
theorem aea (xs : LL) (h : WR Fv.ct 164 xs) (hc : Fy xs ≤ 1048576) : MA.c xs = rL xs:=by
 have hl:=FP xs
 rw [MA.eq]
 refine (Lx (l0:=fun i acc=>MA.l0 xs i acc) (xs:=xs) (f:=fun x=>[U.int (ui x 0),U.int (ui x 1),U.lst (ul x 2),U.int (ui x 3),U.lst (GW (ul x 4))]) (R:=fun acc=>rL acc) (fun acc ha=>?_) fun i hi acc ha=>?_).trans (qQq rL (OC fun x hx=>by obtain ⟨c0,c1,c2,c3,c4,rfl,_,h4⟩:=Ud (h.2 x hx); show [U.int c0,U.int c1,U.lst c2,U.int c3,U.lst (GW c4)] = _; rw [Vo h4]))
 ·rw [MA.Fx,FO (qQb _)]; rfl
 ·have h1:=sub_lt hi 2
  have h2:=FP (ul (xs.getD i []) 2)
  have h4:=sub_lt hi 4
  rw [MA.Fx,FN hi,FU hi,FZ (by omega),aae _ _ (gl xs (i : Int) 2) _ (gl xs (i : Int) 4) (by show (ul (xs.getD i []) 2).length ≤ _; omega) (by show Fy (ul (xs.getD i []) 4) ≤ _; omega)]
  show EK (room (acc.length + 1) 72) _ = _
  rw [FV (by omega) (by omega)]; rfl
theorem acI (xs : LL) (h : WR Fv.ct 164 xs) (hc : Fy xs ≤ 1048576) : Mb.c xs = rL xs:=by
 have hl:=FP xs
 rw [Mb.eq]
 refine (Lx (l0:=fun i acc=>Mb.l0 xs _ i acc) (xs:=xs) (f:=fun x=>[U.int (ui x 0),U.int (ui x 1),U.lst (ul x 2),U.int (ui x 3),U.lst (GW (ul x 4))]) (R:=fun acc=>rL acc) (fun acc ha=>?_) fun i hi acc ha=>?_).trans (qQq rL (OC fun x hx=>by obtain ⟨c0,c1,c2,c3,c4,rfl,_,h4⟩:=Ud (h.2 x hx); show [U.int c0,U.int c1,U.lst c2,U.int c3,U.lst (GW c4)] = _; rw [Vo h4]))
 ·rw [Mb.Fx,FO (qQb _)]; rfl
 ·have h1:=sub_lt hi 2
  have h2:=FP (ul (xs.getD i []) 2)
  have h4:=sub_lt hi 4
  rw [Mb.Fx,FN hi,FU hi,FZ (by omega),YW _ _ (gl xs (i : Int) 2) _ (gl xs (i : Int) 4) (by show (ul (xs.getD i []) 2).length ≤ _; omega) (by show Fy (ul (xs.getD i []) 4) ≤ _; omega)]
  show EK (room (acc.length + 1) 72) _ = _
  rw [FV (by omega) (by omega)]; rfl
theorem ad9 {a1 a2 a3 a4 : LL} (k : Int) {a6 : LL} (h1 : WR Fv.ct 252 a1) (b1 : Fy a1 ≤ 1048576) (h2 : WR Fv.ct 164 a2) (b2 : Fy a2 ≤ 1048576) (b3 : Fy a3 ≤ 1048576) (b4 : Fy a4 ≤ 1048576) (b6 : Fy a6 ≤ 1048576) : UF.c a1 a2 a3 a4 k a6 = some ⟨[[.lst a1,.lst a2,.lst a3,.lst a4,.int k,.lst a6]],[]⟩:=by
 have l3:=FP a3
 have l4:=FP a4
 have l6:=FP a6
 rw [UF.eq,aec a1 h1 b1,aea a2 h2 b2,aaf a3 (by omega),FV (by omega) (by omega),FV (by omega) (by omega)]; rfl
theorem acH {a1 a2 a3 a4 : LL} (k : Int) {a6 : LL} (h1 : WR Fv.ct 252 a1) (b1 : Fy a1 ≤ 1048576) (h2 : WR Fv.ct 164 a2) (b2 : Fy a2 ≤ 1048576) (b3 : Fy a3 ≤ 1048576) (b4 : Fy a4 ≤ 1048576) (b6 : Fy a6 ≤ 1048576) : LD.c a1 a2 a3 a4 k a6 = some ⟨[[.lst a1,.lst a2,.lst a3,.lst a4,.int k,.lst a6]],[]⟩:=by
 have l1:=FP a1
 have l3:=FP a3
 have l4:=FP a4
 have l6:=FP a6
 rw [LD.eq,acI a2 h2 b2,YX a3 (by omega),FV (by omega) (by omega),FV (by omega) (by omega)]
 show LD.l0 a1 (ln a1) 0 0 k [] a2 a3 a4 a6 = _
 refine (Lx (l0:=fun i acc=>LD.l0 a1 (ln a1) i 0 k acc a2 a3 a4 a6) (xs:=a1) (f:=fun x=>[U.int (ui x 0),U.lst (ul x 1),U.int (ui x 2)]) (R:=fun acc=>some ⟨[[.lst acc,.lst a2,.lst a3,.lst a4,.int k,.lst a6]],[]⟩) (fun acc ha=>?_) fun i hi acc ha=>?_).trans (qQq (fun acc : LL=>(some ⟨[[.lst acc,.lst a2,.lst a3,.lst a4,.int k,.lst a6]],[]⟩ : O)) (OC fun x hx=>by obtain ⟨c0,c1,c2,rfl,_⟩:=Ue (h1.2 x hx); rfl))
 ·rw [LD.Fx,show decide (((a1.length : Nat) : Int) < ln a1) = false from FO (qQb _)]; rfl
 ·have g1:=sub_lt hi 1
  have g2:=FP (ul (a1.getD i []) 1)
  rw [LD.Fx,show decide ((i : Int) < ln a1) = true from FN hi,FU hi,FZ (by omega)]
  show EK (room (0 + (ul (a1.getD i []) 1).length) 8) (EK (room (acc.length + 1) 40) _) = _
  rw [FV (by omega) (by omega),FV (by omega) (by omega)]; rfl
end Go.Proofs.YtaghmjcfaplkiaaGreat.Eng
/- half -/
