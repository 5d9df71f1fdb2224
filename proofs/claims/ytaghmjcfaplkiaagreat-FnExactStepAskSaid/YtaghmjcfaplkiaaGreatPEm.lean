/- Copies of emergencies are what is copied. -/
import Derived.Test.YtaghmjcfaplkiaaGreatPA2
import Derived.Test.YtaghmjcfaplkiaaGreatH
import Derived.Test.YtaghmjcfaplkiaaGreatPT
namespace Go.Proofs.YtaghmjcfaplkiaaGreat.Eng
open Go.RowKit
set_option linter.unusedVariables false
set_option linter.unusedSimpArgs false
set_option linter.unusedSectionVars false
set_option maxRecDepth 100000
variable [Sm]
/- instances too -/
theorem Yy {l0 : Int → List (List U) → Option aJ} {n : Nat} {row : Nat → List U} {R : List (List U) → Option aJ} (GY : ∀ s,s.length ≤ n → l0 (n : Int) s = R s) (iH : ∀ i,i < n → ∀ s : List (List U),s.length ≤ i → l0 (i : Int) s = l0 ((i + 1 : Nat) : Int) (s ++ [row i])) : l0 0 [] = R ((List.range n).map row):=by
 have:=Ph (p:=fun _=>true) GY iH
 rwa [List.filter_eq_self.2 fun _ _=>rfl] at this
theorem aaH {xs : List (List U)} {i : Nat} {a b c d : Int} {u : List (List U)} {s : Bool} (hi : i < xs.length) (hr : xs.getD i [] = [.int a,.int b,.int c,.int d,.lst u,.bool s]) : u.length ≤ Fy xs:=by
 have h:=Gc (FF hi (z:=[]))
 rw [hr] at h
 simp only [FQ,FX] at h
 have:=FP u
 omega
theorem ad8 (xs : List (List U)) (h : WR Fv.ct 94 xs) (hc : Fy xs ≤ 1048576) : ME.c xs = some ⟨[[.lst xs]],[]⟩:=by
 have hl:=FP xs
 rw [ME.eq]; (try dsimp +instances only [gr,gi,gl,gb,gt,ui,ul,ub,ut,Ft,ln,EK,aJ.i,aJ.l,aJ.b,aJ.t,aJ.ij,aJ.lj,aJ.bj,aJ.tj])
 refine (Yy (l0:=fun i s=>ME.l0 xs i s) (n:=xs.length) (row:=fun i=>xs.getD i []) (R:=fun s=>some ⟨[[.lst s]],[]⟩) (fun s hs=>?_) fun i hi s hs=>?_).trans (by rw [HN])
 ·rw [ME.Fx]; (try dsimp +instances only [gr,gi,gl,gb,gt,ui,ul,ub,ut,Ft,ln,EK,aJ.i,aJ.l,aJ.b,aJ.t,aJ.ij,aJ.lj,aJ.bj,aJ.tj]); rw [FO (qQb _)]; rfl
 ·obtain ⟨a,b,c,d,u,e,hr,hu⟩:=Ui (h.2 _ (FF hi (z:=[])))
  have:=aaH hi hr
  rw [ME.Fx]; (try dsimp +instances only [gr,gi,gl,gb,gt,ui,ul,ub,ut,Ft,ln,EK,aJ.i,aJ.l,aJ.b,aJ.t,aJ.ij,aJ.lj,aJ.bj,aJ.tj]); rw [FN hi,FR,qQa hi,FW (by omega),qQd,hr,FV (by show (0 + u.length) * 8 ≤ _; omega) (by show 0 + u.length ≤ _; omega),FV (by simp; omega) (by simp; omega)]
  rfl
theorem acG (xs : List (List U)) (h : WR Fv.ct 94 xs) (hc : Fy xs ≤ 1048576) : Ma.c xs = some ⟨[[.lst xs]],[]⟩:=by
 have hl:=FP xs
 rw [Ma.eq]; (try dsimp +instances only [gr,gi,gl,gb,gt,ui,ul,ub,ut,Ft,ln,EK,aJ.i,aJ.l,aJ.b,aJ.t,aJ.ij,aJ.lj,aJ.bj,aJ.tj])
 refine (Yy (l0:=fun i s=>Ma.l0 xs _ i s) (n:=xs.length) (row:=fun i=>xs.getD i []) (R:=fun s=>some ⟨[[.lst s]],[]⟩) (fun s hs=>?_) fun i hi s hs=>?_).trans (by rw [HN])
 ·rw [Ma.Fx]; (try dsimp +instances only [gr,gi,gl,gb,gt,ui,ul,ub,ut,Ft,ln,EK,aJ.i,aJ.l,aJ.b,aJ.t,aJ.ij,aJ.lj,aJ.bj,aJ.tj]); rw [FO (qQb _)]; rfl
 ·obtain ⟨a,b,c,d,u,e,hr,hu⟩:=Ui (h.2 _ (FF hi (z:=[])))
  have:=aaH hi hr
  rw [Ma.Fx]; (try dsimp +instances only [gr,gi,gl,gb,gt,ui,ul,ub,ut,Ft,ln,EK,aJ.i,aJ.l,aJ.b,aJ.t,aJ.ij,aJ.lj,aJ.bj,aJ.tj]); rw [FN hi,FR,qQa hi,FW (by omega),qQd,hr,FV (by show (0 + u.length) * 8 ≤ _; omega) (by show 0 + u.length ≤ _; omega),FV (by simp; omega) (by simp; omega)]
  rfl
end Go.Proofs.YtaghmjcfaplkiaaGreat.Eng
/- half -/
