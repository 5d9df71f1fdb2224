/- Grants,trails,pairs of roles,epochs,centers,points,worlds that are valid. -/
import Derived.Test.YtaghmjcfaplkiaaGreatPB2
import Derived.Test.YtaghmjcfaplkiaaGreatPC1
import Derived.Test.YtaghmjcfaplkiaaGreatPA10
namespace Go.Proofs.YtaghmjcfaplkiaaGreat.Eng
open Go.RowKit
set_option linter.unusedVariables false
set_option linter.unusedSimpArgs false
set_option linter.unusedSectionVars false
set_option maxRecDepth 100000
variable [Sm]
theorem Vk {α : Type} {a b : Bool} {x y : α} : (bif a && b then x else y) = bif a then (bif b then x else y) else y:=by cases a <;> rfl
/-! ### Grants -/
def Qw (i : Nat) (x : List U) : Bool:=decide (ui x 0 = ((i + 1 : Nat) : Int)) && (Hw (ui x 1) 1 && (Hw (ui x 2) 1 && (!decide (ui x 1 = ui x 2) && (within (ui x 4) 0 10000 && (within (ui x 5) 0 (i : Int) && ordered (Nq 0 5) Jf (ul x 3))))))
def NQ (xs : LL) : Bool:=(List.range xs.length).all (fun i=>Qw i (xs.getD i [])) && decide (ln xs ≤ 12)
theorem Za (xs : LL) (hx : xs.length ≤ 1048576) (hs : ∀ x ∈ xs,(ul x 3).length ≤ 1048576) : LY.c xs = rB (NQ xs):=by
 rw [LY.eq]
 refine Oj (l0:=fun i=>LY.l0 xs xs _ i) (n:=xs.length) (p:=fun i=>Qw i (xs.getD i [])) ?_ fun i hi=>?_
 ·rw [LY.Fx,FO (qQb _)]; rfl
 ·rw [LY.Fx,FN hi,FU hi,FZ (by omega),Pm,Pm,acA (gl xs (i : Int) 3) (hs _ (FF hi (z:=[]))) 0 5,NG,HQ]
  show (bif !decide (ui (xs.getD i []) 0 = ((i + 1 : Nat) : Int)) then _ else bif !Hw (ui (xs.getD i []) 1) 1 then _ else bif !Hw (ui (xs.getD i []) 2) 1 then _ else bif decide (ui (xs.getD i []) 1 = ui (xs.getD i []) 2) then _ else bif !(ordered (Nq 0 5) Jf (ul (xs.getD i []) 3) && true) then _ else bif !within (ui (xs.getD i []) 4) 0 10000 then _ else bif !within (ui (xs.getD i []) 5) 0 (i : Int) then _ else _) = _
  simp only [Qw,Vk,Nb,qXs]
  generalize ordered (Nq 0 5) Jf (ul (xs.getD i []) 3) = o
  generalize within (ui (xs.getD i []) 4) 0 10000 = p
  generalize within (ui (xs.getD i []) 5) 0 (i : Int) = q
  cases o <;> cases p <;> cases q <;> rfl
theorem aaj (xs : LL) (hx : xs.length ≤ 1048576) (hs : ∀ x ∈ xs,(ul x 3).length ≤ 1048576) : HJ.c xs = rB (NQ xs):=by
 rw [HJ.eq]
 refine Oj (l0:=fun i=>HJ.l0 xs i) (n:=xs.length) (p:=fun i=>Qw i (xs.getD i [])) ?_ fun i hi=>?_
 ·rw [HJ.Fx,FO (qQb _)]; rfl
 ·have inner : ∀ (a b c d e : Int) (f : Bool) (ys : LL),ys.length ≤ 1048576 → HJ.l1 xs (i : Int) 0 a b c ys d e f = bif ordered (Nq 0 5) Jf ys then HJ.l0 xs ((i + 1 : Nat) : Int) else rB false:=by
   intro a b c d e f ys hy
   refine Yk (l0:=fun j=>HJ.l1 xs (i : Int) j a b c ys d e f) (n:=ys.length) (p:=fun j=>(Nq 0 5) (ys.getD j []) && Oi Jf ys j) ?_ fun j hj=>?_
   ·rw [HJ.IE,FO (qQb _),FZ (n:=i) (by omega)]; rfl
   ·rw [HJ.IE,FN hj,FU hj,FZ (by omega),Ij]
    show (bif !within (v0 (ys.getD j [])) 0 5 then _ else _) = _
    unfold Nq
    cases within (v0 (ys.getD j [])) 0 5
    ·rfl
    cases j with
    | zero=>rfl
    | succ j =>
     rw [Wx (by omega),FU (show j < ys.length by omega),Wh]
     show (bif decide (v0 (ys.getD j []) ≥ v0 (ys.getD (j + 1) [])) then _ else _) = bif !((decide (v0 (ys.getD j []) ≥ v0 (ys.getD (j + 1) [])))) then _ else rB false
     cases decide (v0 (ys.getD j []) ≥ v0 (ys.getD (j + 1) [])) <;> rfl
  rw [HJ.Fx,FN hi,FU hi,FZ (by omega),PQ,PQ,NN,Ij,inner _ _ _ _ _ _ (gl xs (i : Int) 3) (hs _ (FF hi (z:=[])))]
  show (bif !decide (ui (xs.getD i []) 0 = ((i + 1 : Nat) : Int)) then _ else bif !Hw (ui (xs.getD i []) 1) 1 then _ else bif !Hw (ui (xs.getD i []) 2) 1 then _ else bif decide (ui (xs.getD i []) 1 = ui (xs.getD i []) 2) then _ else bif !within (ui (xs.getD i []) 4) 0 10000 then _ else bif !within (ui (xs.getD i []) 5) 0 (i : Int) then _ else bif ordered (Nq 0 5) Jf (ul (xs.getD i []) 3) then _ else _) = _
  simp only [Qw,Vk,Nb,qXs]
/-! ### Trails -/
def NI (xs : LL) : Int:=bif decide (ln xs = 0) then 0 else ui (xs.getD (xs.length - 1) []) 8
def Xn (xs : LL) (a : Int) : Bool:=bif decide (ln xs > 0) then !decide (a < ui (xs.getD (xs.length - 1) []) 1) else true
def On (xs : LL) (k a : Int) : Bool:=!decide (ln xs ≥ 60) && (within k 1 3 && (within a 0 10000 && Xn xs a))
def Qt (xs : LL) (i0 i1 i2 i3 i4 i5 i6 i7 : Int) : List U:=[U.int i0,U.int i1,U.int i2,U.int i3,U.int i4,U.int i5,U.int i6,U.int i7,U.int (Oo ([[U.int (NI xs)]] ++ [[U.int i0],[U.int i1],[U.int i2],[U.int i3],[U.int i4],[U.int i5],[U.int i6],[U.int i7]]))]
theorem Wd {xs : LL} (hx : xs.length ≤ 1048576) (h : decide (ln xs = 0) = false) : Ft (ln xs - 1) = ((xs.length - 1 : Nat) : Int) ∧ xs.length - 1 < xs.length:=by
 have h : ¬ ln xs = 0:=of_decide_eq_false h
 have e : ln xs = (xs.length : Int):=rfl
 rw [e] at h ⊢
 refine ⟨?_,by omega⟩
 rw [Jg (by omega) (by omega)]; omega
theorem aet (xs : LL) (hx : xs.length ≤ 1048576) : Ru.c xs = rI (NI xs):=by
 rw [Ru.eq]
 unfold NI
 cases h : decide (ln xs = 0)
 ·obtain ⟨h1,h2⟩:=Wd hx h
  rw [h1,FU h2]; rfl
 ·rfl
theorem ac5 (xs : LL) (hx : xs.length ≤ 1048576) : QF.c xs = rI (NI xs):=by
 rw [QF.eq]
 unfold NI
 cases h : decide (ln xs = 0)
 ·obtain ⟨h1,h2⟩:=Wd hx h
  rw [h1,FU h2]; rfl
 ·rfl
theorem ZC {xs : LL} (h : decide (ln xs > 0) = true) : decide (ln xs = 0) = false:=by
 have h : ln xs > 0:=qZu h
 exact qQm (by omega)
theorem ad1 (xs : LL) (hx : xs.length ≤ 1048576) (i0 i1 i2 i3 i4 i5 i6 i7 i8 : Int) : Ro.c xs i0 i1 i2 i3 i4 i5 i6 i7 i8 = bif On xs i0 i1 then some ⟨[[.lst (xs ++ [Qt xs i0 i1 i2 i3 i4 i5 i6 i7])],[.bool true]],[]⟩ else some ⟨[[.lst xs],[.bool false]],[]⟩:=by
 rw [Ro.eq,Ij,NN,aet xs hx,Uo.eq,FV (by omega) (by omega)]
 have hh : KV.c ([[U.int (NI xs)]] ++ [[U.int i0],[U.int i1],[U.int i2],[U.int i3],[U.int i4],[U.int i5],[U.int i6],[U.int i7]]) = rI (Oo ([[U.int (NI xs)]] ++ [[U.int i0],[U.int i1],[U.int i2],[U.int i3],[U.int i4],[U.int i5],[U.int i6],[U.int i7]])):=aak _ (by simp)
 unfold On Xn
 simp only [q0,qb,qi,ql,Hv,Vk,Nb,hh]
 cases decide (ln xs ≥ 60)
 ·cases within i0 1 3
  ·rfl
  cases within i1 0 10000
  ·rfl
  rw [FV (n:=xs.length + [_].length) (by simp; omega) (by simp; omega)]
  cases h : decide (ln xs > 0)
  ·rfl
  ·obtain ⟨h1,h2⟩:=Wd hx (ZC h)
   rw [h1,FU h2]
   show (bif decide (i1 < ui (xs.getD (xs.length - 1) []) 1) then _ else _) = _
   cases decide (i1 < ui (xs.getD (xs.length - 1) []) 1) <;> rfl
 ·rfl
theorem acy (xs : LL) (hx : xs.length ≤ 1048576) (i0 i1 i2 i3 i4 i5 i6 i7 i8 : Int) : QB.c xs i0 i1 i2 i3 i4 i5 i6 i7 i8 = bif On xs i0 i1 then some ⟨[[.lst (xs ++ [Qt xs i0 i1 i2 i3 i4 i5 i6 i7])],[.bool true]],[]⟩ else some ⟨[[.lst xs],[.bool false]],[]⟩:=by
 rw [QB.eq,HQ,NG,ac5 xs hx,Sn.eq,FV (by omega) (by omega)]
 have hh : Kk.c ([[U.int (NI xs)]] ++ [[U.int i0],[U.int i1],[U.int i2],[U.int i3],[U.int i4],[U.int i5],[U.int i6],[U.int i7]]) = rI (Oo ([[U.int (NI xs)]] ++ [[U.int i0],[U.int i1],[U.int i2],[U.int i3],[U.int i4],[U.int i5],[U.int i6],[U.int i7]])):=Zc _ (by simp)
 unfold On Xn
 simp only [q0,qb,qi,ql,Hv,Vk,Nb,hh]
 cases decide (ln xs ≥ 60)
 ·cases within i0 1 3
  ·rfl
  cases within i1 0 10000
  ·rfl
  rw [FV (n:=xs.length + [_].length) (by simp; omega) (by simp; omega)]
  cases h : decide (ln xs > 0)
  ·rfl
  ·obtain ⟨h1,h2⟩:=Wd hx (ZC h)
   rw [h1,FU h2]
   show (bif decide (ui (xs.getD (xs.length - 1) []) 1 > i1) then _ else _) = _
   rw [show decide (ui (xs.getD (xs.length - 1) []) 1 > i1) = decide (i1 < ui (xs.getD (xs.length - 1) []) 1) from rfl]
   cases decide (i1 < ui (xs.getD (xs.length - 1) []) 1) <;> rfl
 ·rfl
end Go.Proofs.YtaghmjcfaplkiaaGreat.Eng
/- half -/
