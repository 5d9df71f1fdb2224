/- Conditions: whether they are valid,whether they hold. -/
import Derived.Test.YtaghmjcfaplkiaaGreatPA3
namespace Go.Proofs.YtaghmjcfaplkiaaGreat.Eng
open Go.RowKit
set_option linter.unusedVariables false
set_option linter.unusedSimpArgs false
set_option linter.unusedSectionVars false
set_option maxRecDepth 100000
variable [Sm]
theorem Vn : ∀ (x : List U) (k : Nat),Fy (ul x k) ≤ FQ x
 | [],k=>by simp [ul,Fy,U.bB]
 | u :: us,0=>by
  simp only [ul,qYm,FQ]
  cases u <;> simp [U.bB,Fy,FX]
 | u :: us,k + 1=>by
  have:=Vn us k
  simp only [ul,qZ9,FQ] at this ⊢
  omega
theorem sub_lt {xs : LL} {i : Nat} (hi : i < xs.length) (k : Nat) : Fy (ul (xs.getD i []) k) < Fy xs :=
 qZ8 (Vn _ k) (Gc (FF hi (z:=[])))
def arity (o : Int) : Int:=bif decide (o = 7) then 1 else bif decide (o = 8) then 2 else bif decide (o = 9) then 2 else bif within o 1 6 then 0 else -1
theorem acz (o : Int) : IM.c o = rI (arity o):=by simp only [IM.eq,HQ,q0,qb,cI]; rfl
theorem ad2 (o : Int) : Jd.c o = rI (arity o):=by
 rw [Jd.eq]
 unfold arity
 by_cases h1 : o = 1
 ·subst h1; rfl
 by_cases h2 : o = 2
 ·subst h2; rfl
 by_cases h3 : o = 3
 ·subst h3; rfl
 by_cases h4 : o = 4
 ·subst h4; rfl
 by_cases h5 : o = 5
 ·subst h5; rfl
 by_cases h6 : o = 6
 ·subst h6; rfl
 have h : within o 1 6 = false:=by
  rw [Bool.eq_false_iff]; intro hh
  have:=Gx hh
  omega
 simp only [qQm h1,qQm h2,qQm h3,qQm h4,qQm h5,qQm h6,h,qQ3]
 cases decide (o = 7) <;> cases decide (o = 8) <;> cases decide (o = 9) <;> rfl
def Wy (o : Int) : Int:=bif decide (o = 2) then 5 else bif decide (o = 4) then 3 else bif decide (o = 5) then 3 else bif decide (o = 6) then 10000 else 0
def WK (o : Int) : Int:=bif within o 2 5 then 10000 else 0
def Nu (o a b n : Int) : Bool:=decide (n = arity o) && (within a 0 (Wy o) && within b 0 (WK o))
theorem af9 (a : Int) : within a 0 0 = decide (a = 0):=by
 unfold within
 rw [qXi]
 simp only [qQi,qQw]
 omega
theorem ac9 (o a b : Int) (xs : LL) : SL.c o a b xs = rB (Nu o a b xs.length):=by
 simp only [SL.eq,HQ,acz,q0,qb,qi,cB,GX]
 unfold Nu Wy WK
 cases decide (o = 2) <;> cases decide (o = 4) <;> cases decide (o = 5) <;> cases decide (o = 6) <;> cases within o 2 5 <;> rfl
theorem aex (o a b : Int) (xs : LL) : UE.c o a b xs = rB (Nu o a b xs.length):=by
 have e : ∀ x y z : Bool,(z && (x && y)) = (x && (y && z)):=by decide
 simp only [UE.eq,Ij,NN,ad2,q0,qb,qi,cB,GX]
 unfold Nu Wy WK
 cases decide (o = 2) <;> cases decide (o = 4) <;> cases decide (o = 5) <;> cases decide (o = 6) <;> cases within o 2 5 <;> simp only [qQh,qQ3,af9] <;> exact qQq rB (e _ _ _).symm
/-- All nodes are right. -/
def IJ : Nat → Int → Int → Int → LL → Bool
 | 0,_,_,_,_=>false
 | n + 1,o,a,b,xs=>Nu o a b xs.length && xs.all fun x=>IJ n (ui x 0) (ui x 1) (ui x 2) (ul x 3)
theorem aav : ∀ (n : Nat) (o a b : Int) (xs : LL),Fy xs < n → n ≤ 4611686018427387904 → Lu.c o a b xs = rB (IJ n o a b xs)
 | 0,_,_,_,_,h,_=>by omega
 | n + 1,o,a,b,xs,h,hn=>by
  have hl:=FP xs
  rw [Lu.eq,aex]
  simp only [q0,qb,Nb]
  unfold IJ
  cases Nu o a b xs.length
  ·rfl
  rw [qQh,qXb]
  refine (Oj (l0:=fun i=>Lu.l0 i o a b xs) (n:=xs.length) (p:=fun i=>IJ n (ui (xs.getD i []) 0) (ui (xs.getD i []) 1) (ui (xs.getD i []) 2) (ul (xs.getD i []) 3)) (b:=true) ?_ fun i hi=>?_).trans (by rw [qXs,XH xs [] fun x=>IJ n (ui x 0) (ui x 1) (ui x 2) (ul x 3)])
  ·rw [Lu.Fx,FO (qQb _)]; rfl
  ·have:=sub_lt hi 3
   have hs:=aav n (ui (xs.getD i []) 0) (ui (xs.getD i []) 1) (ui (xs.getD i []) 2) (ul (xs.getD i []) 3) (by omega) (by omega)
   rw [Lu.Fx,FN hi,FU hi,FZ (by omega)]
   show ((Lu.c (ui (xs.getD i []) 0) (ui (xs.getD i []) 1) (ui (xs.getD i []) 2) (ul (xs.getD i []) 3)).bind _) = _
   rw [hs]
   cases IJ n (ui (xs.getD i []) 0) (ui (xs.getD i []) 1) (ui (xs.getD i []) 2) (ul (xs.getD i []) 3) <;> rfl
theorem Zk : ∀ (n : Nat) (o a b : Int) (xs : LL),Fy xs < n → n ≤ 4611686018427387904 → Px.c o a b xs = rB (IJ n o a b xs)
 | 0,_,_,_,_,h,_=>by omega
 | n + 1,o,a,b,xs,h,hn=>by
  have hl:=FP xs
  have hf : Ms.c xs = rI (Gb xs fun x=>!IJ n (ui x 0) (ui x 1) (ui x 2) (ul x 3)):=by
   rw [Ms.eq]
   refine La (l0:=fun i=>Ms.l0 xs _ i) (n:=xs.length) (p:=fun i=>!IJ n (ui (xs.getD i []) 0) (ui (xs.getD i []) 1) (ui (xs.getD i []) 2) (ul (xs.getD i []) 3)) ?_ fun i hi=>?_
   ·rw [Ms.Fx,FO (qQb _)]; rfl
   ·have:=sub_lt hi 3
    have hs:=Zk n (ui (xs.getD i []) 0) (ui (xs.getD i []) 1) (ui (xs.getD i []) 2) (ul (xs.getD i []) 3) (by omega) (by omega)
    rw [Ms.Fx,FN hi,FU hi,FZ (by omega),VT.eq]
    show (((Px.c (ui (xs.getD i []) 0) (ui (xs.getD i []) 1) (ui (xs.getD i []) 2) (ul (xs.getD i []) 3)).bind _).bind _) = _
    rw [hs]; rfl
  rw [Px.eq,ac9,Wr.eq,hf]
  simp only [q0,qb,qi,cB,GX]
  rw [show IJ (n + 1) o a b xs = (Nu o a b xs.length && xs.all fun x=>IJ n (ui x 0) (ui x 1) (ui x 2) (ul x 3)) from rfl]
  congr 2
  show (!decide (pos (fun i=>(fun x=>!IJ n (ui x 0) (ui x 1) (ui x 2) (ul x 3)) (xs.getD i [])) xs.length 0 ≥ 0)) = _
  rw [Ql fun x=>!IJ n (ui x 0) (ui x 1) (ui x 2) (ul x 3),qYw]
/-- How many nodes are below. -/
def II : Nat → LL → Nat
 | 0,_=>0
 | n + 1,xs=>(xs.map fun x=>1 + II n (ul x 3)).sum
theorem XY : ∀ (n : Nat) (xs : LL),II n xs ≤ Fy xs
 | 0,xs=>qQt _
 | n + 1,[]=>by simp [II]
 | n + 1,x :: xs=>by
  have h1:=XY n (ul x 3)
  have h2:=XY (n + 1) xs
  have h3:=Vn x 3
  simp only [II,qQ0,qXc,Fy] at h2 ⊢
  omega
theorem Zh : ∀ (n : Nat) (o a b : Int) (xs : LL),Fy xs < n → n ≤ 4611686018427387904 → Kn.c o a b xs = rI (((1 + II n xs : Nat) : Int))
 | 0,_,_,_,_,h,_=>by omega
 | n + 1,o,a,b,xs,h,hn=>by
  have hl:=FP xs
  have key : ∀ i,i ≤ xs.length → ∀ k : Nat,k + Fy (xs.drop i) ≤ 4611686018427387904 → Kn.l0 (k : Int) xs (ln xs) (i : Int) = rI (((k + ((xs.drop i).map fun x=>1 + II n (ul x 3)).sum : Nat) : Int)):=by
   refine down xs.length ?_ ?_
   ·intro k hk
    rw [Kn.Fx,FO (qQb _),qYz]; rfl
   ·intro i hi ih k hk
    have:=sub_lt hi 3
    have hs:=Zh n (ui (xs.getD i []) 0) (ui (xs.getD i []) 1) (ui (xs.getD i []) 2) (ul (xs.getD i []) 3) (by omega) (by omega)
    rw [Qs hi] at hk ⊢
    have h1:=XY n (ul (xs.getD i []) 3)
    have h2:=Vn (xs.getD i []) 3
    simp only [Fy] at hk
    rw [Kn.Fx,FN hi,FU hi,FZ (by omega)]
    show ((Kn.c (ui (xs.getD i []) 0) (ui (xs.getD i []) 1) (ui (xs.getD i []) 2) (ul (xs.getD i []) 3)).bind _) = _
    rw [hs]
    show Kn.l0 (Ft ((k : Int) + ((1 + II n (ul (xs.getD i []) 3) : Nat) : Int))) xs (ln xs) ((i + 1 : Nat) : Int) = _
    have e : Ft ((k : Int) + ((1 + II n (ul (xs.getD i []) 3) : Nat) : Int)) = ((k + (1 + II n (ul (xs.getD i []) 3)) : Nat) : Int):=by rw [Jg (by omega) (by omega)]; omega
    rw [e,ih _ (by omega),qQ0,qXc,qQ4]
  rw [Kn.eq]
  have:=key 0 (qQt _) 1 (by rw [qYp]; omega)
  rw [qYp] at this
  exact this
theorem aal : ∀ (n : Nat) (o a b : Int) (xs : LL) (L : Int),Fy xs < n → n ≤ 4611686018427387904 → 0 ≤ L → L ≤ 4611686018427387904 →
  ∃ m : Int,Lt.c o a b xs L = rI m ∧ m ≤ L ∧ (((1 + II n xs : Nat) : Int) ≤ L → m = L - ((1 + II n xs : Nat) : Int)) ∧ (L < ((1 + II n xs : Nat) : Int) → m < 0)
 | 0,_,_,_,_,_,h,_,_,_=>by omega
 | n + 1,o,a,b,xs,L,h,hn,h0,hL=>by
  have hl:=FP xs
  have key : ∀ i,i ≤ xs.length → ∀ l : Int,l ≤ 4611686018427387904 → ∃ m : Int,Lt.l0 l (i : Int) o a b xs = rI m ∧ m ≤ l ∧ ((((xs.drop i).map fun x=>1 + II n (ul x 3)).sum : Int) ≤ l → m = l - (((xs.drop i).map fun x=>1 + II n (ul x 3)).sum : Int)) ∧ (l < (((xs.drop i).map fun x=>1 + II n (ul x 3)).sum : Int) → m < 0):=by
   refine down xs.length ?_ ?_
   ·intro l YN
    refine ⟨l,by rw [Lt.Fx,FO (qQb _)]; rfl,qZx _,?_,?_⟩ <;> rw [qYz] <;> simp
   ·intro i hi ih l YN
    rw [Qs hi,qQ0,qXc,Lt.Fx,FN hi,qQh]
    by_cases hl0 : l ≥ 0
    ·have:=sub_lt hi 3
     obtain ⟨m1,hs,q1,q2,q3⟩:=aal n (ui (xs.getD i []) 0) (ui (xs.getD i []) 1) (ui (xs.getD i []) 2) (ul (xs.getD i []) 3) l (by omega) (by omega) hl0 YN
     obtain ⟨m,r1,r2,r3,r4⟩:=ih m1 (by omega)
     refine ⟨m,?_,by omega,fun hh=>?_,fun hh=>?_⟩
     ·rw [qQa hl0,FU hi,FZ (by omega)]
      show ((Lt.c (ui (xs.getD i []) 0) (ui (xs.getD i []) 1) (ui (xs.getD i []) 2) (ul (xs.getD i []) 3) l).bind _) = _
      rw [hs]; exact r1
     ·have h1:=q2 (by omega)
      rw [r3 (by omega)]; omega
     ·by_cases hc : ((1 + II n (ul (xs.getD i []) 3) : Nat) : Int) ≤ l
      ·have h1:=q2 hc
       exact r4 (by omega)
      ·have:=q3 (by omega)
       exact r4 (by omega)
    ·refine ⟨l,by rw [qQm hl0]; rfl,qZx _,fun hh=>by omega,fun _=>by omega⟩
  rw [Lt.eq,Jg (by omega) (by omega)]
  obtain ⟨m,r1,r2,r3,r4⟩:=key 0 (qQt _) (L - 1) (by omega)
  rw [qYp] at r3 r4
  refine ⟨m,r1,by omega,fun hh=>?_,fun hh=>?_⟩
  ·simp only [II] at hh ⊢
   rw [r3 (by omega)]; omega
  ·simp only [II] at hh
   exact r4 (by omega)
def NH (o a b : Int) (xs : LL) : Bool:=decide (((1 + II (Fy xs + 1) xs : Nat) : Int) ≤ 15) && IJ (Fy xs + 1) o a b xs
theorem YU (o a b : Int) (xs : LL) (h : Fy xs ≤ 1099511627776) : Pq.c o a b xs = rB (NH o a b xs):=by
 rw [Pq.eq,Zh (Fy xs + 1) o a b xs (qJa _) (by omega),Zk (Fy xs + 1) o a b xs (qJa _) (by omega)]
 simp only [q0,qi,qb,cB,GX]; rfl
theorem aac (o a b : Int) (xs : LL) (h : Fy xs ≤ 1099511627776) : PY.c o a b xs = rB (NH o a b xs):=by
 obtain ⟨m,h1,h2,h3,h4⟩:=aal (Fy xs + 1) o a b xs 15 (qJa _) (by omega) (by omega) (by omega)
 rw [PY.eq,h1,aav (Fy xs + 1) o a b xs (qJa _) (by omega)]
 simp only [q0,qi,qb,cB,GX]
 unfold NH
 congr 2
 show decide (m ≥ 0) = _
 rw [decide_eq_decide]
 omega
/-- Whether a leaf holds. -/
noncomputable def leaf (l s : LL) (p d g now o a b : Int) : Bool:=bif decide (o = 1) then true else bif decide (o = 2) then has (HS (XI l s p now b)) a else bif decide (o = 3) then decide (Gb s (Qv 2 p d now b) ≥ 0) else bif decide (o = 4) then decide (Vi s 3 d now b ≥ a) else bif decide (o = 5) then decide (Vi s 4 g now b ≥ a) else (decide (o = 6) && decide (now ≤ a))
noncomputable def ND (l s : LL) (p d g now : Int) : Nat → Int → Int → Int → LL → Bool
 | 0,_,_,_,_=>false
 | n + 1,o,a,b,xs=>bif decide (o = 7) then !ND l s p d g now n (gi xs 0 0) (gi xs 0 1) (gi xs 0 2) (gl xs 0 3)
  else bif decide (o = 8) then (ND l s p d g now n (gi xs 0 0) (gi xs 0 1) (gi xs 0 2) (gl xs 0 3) && ND l s p d g now n (gi xs 1 0) (gi xs 1 1) (gi xs 1 2) (gl xs 1 3))
  else bif decide (o = 9) then (ND l s p d g now n (gi xs 0 0) (gi xs 0 1) (gi xs 0 2) (gl xs 0 3) || ND l s p d g now n (gi xs 1 0) (gi xs 1 1) (gi xs 1 2) (gl xs 1 3))
  else leaf l s p d g now o a b
theorem ZA (xs : LL) (q : List U → Bool) : (!decide (Gb xs q = -1)) = decide (Gb xs q ≥ 0):=by
 rcases NK xs q with ⟨h,_⟩ | ⟨j,h,_⟩
 ·rw [h]; rfl
 ·rw [h,qQa (show (j : Int) ≥ 0 by omega),qQm (show ¬ (j : Int) = -1 by omega)]; rfl
theorem aer (l s : LL) (hl : l.length ≤ 4611686018427387904) (hs : s.length ≤ 4611686018427387904) (o a b : Int) (xs : LL) (p d g ac ob now : Int) : Uz.c l s o a b xs p d g ac ob now = rB (leaf l s p d g now o a b):=by
 simp only [Uz.eq,Ws.eq,aeE l s hl hs,aek s hs,ad4 s hs,q0,ql,qi,qb,XU _ (qZd (Wk _) (by decide)),cB]
 unfold leaf
 cases decide (o = 6) <;> rfl
theorem aah (l s : LL) (hl : l.length ≤ 4611686018427387904) (hs : s.length ≤ 4611686018427387904) (p d g ac ob now : Int) : ∀ (n : Nat) (o a b : Int) (xs : LL),IJ n o a b xs = true → Ik.c l s o a b xs p d g ac ob now = rB (ND l s p d g now n o a b xs)
 | 0,o,a,b,xs,h=>by cases h
 | n + 1,o,a,b,xs,h=>by
  have h : (Nu o a b xs.length && xs.all fun x=>IJ n (ui x 0) (ui x 1) (ui x 2) (ul x 3)) = true:=h
  rw [qQi] at h
  obtain ⟨h1,h2⟩:=h
  have hn : (xs.length : Int) = arity o:=by
   unfold Nu at h1
   rw [qQi] at h1
   exact qZu h1.1
  have sub : ∀ i : Nat,i < xs.length → Ik.c l s (gi xs i 0) (gi xs i 1) (gi xs i 2) (gl xs i 3) p d g ac ob now = rB (ND l s p d g now n (gi xs i 0) (gi xs i 1) (gi xs i 2) (gl xs i 3)):=fun i hi=>by
   have:=qQp.1 h2 _ (FF hi (z:=[]))
   exact aah l s hl hs p d g ac ob now n _ _ _ _ this
  rw [Ik.eq]
  by_cases h7 : o = 7
  ·subst h7
   have eK : xs.length = 1:=by have : arity 7 = 1:=rfl; omega
   have s0:=sub 0 (by omega)
   rw [eK]
   show ((Ik.c l s (gi xs 0 0) (gi xs 0 1) (gi xs 0 2) (gl xs 0 3) p d g ac ob now).bind _) = _
   rw [show Ik.c l s (gi xs 0 0) (gi xs 0 1) (gi xs 0 2) (gl xs 0 3) p d g ac ob now = _ from s0]; rfl
  by_cases h8 : o = 8
  ·subst h8
   have eK : xs.length = 2:=by have : arity 8 = 2:=rfl; omega
   have s0:=sub 0 (by omega)
   have s1:=sub 1 (by omega)
   rw [eK]
   show ((Ik.c l s (gi xs 0 0) (gi xs 0 1) (gi xs 0 2) (gl xs 0 3) p d g ac ob now).bind fun r1=>bif r1.b 0 then ((Ik.c l s (gi xs 1 0) (gi xs 1 1) (gi xs 1 2) (gl xs 1 3) p d g ac ob now).bind _) else _) = _
   rw [show Ik.c l s (gi xs 0 0) (gi xs 0 1) (gi xs 0 2) (gl xs 0 3) p d g ac ob now = _ from s0,show Ik.c l s (gi xs 1 0) (gi xs 1 1) (gi xs 1 2) (gl xs 1 3) p d g ac ob now = _ from s1]
   simp only [q0,qb,cB,GX]; rfl
  by_cases h9 : o = 9
  ·subst h9
   have eK : xs.length = 2:=by have : arity 9 = 2:=rfl; omega
   have s0:=sub 0 (by omega)
   have s1:=sub 1 (by omega)
   rw [eK]
   show ((Ik.c l s (gi xs 0 0) (gi xs 0 1) (gi xs 0 2) (gl xs 0 3) p d g ac ob now).bind fun r1=>bif r1.b 0 then rB true else ((Ik.c l s (gi xs 1 0) (gi xs 1 1) (gi xs 1 2) (gl xs 1 3) p d g ac ob now).bind _)) = _
   rw [show Ik.c l s (gi xs 0 0) (gi xs 0 1) (gi xs 0 2) (gl xs 0 3) p d g ac ob now = _ from s0,show Ik.c l s (gi xs 1 0) (gi xs 1 1) (gi xs 1 2) (gl xs 1 3) p d g ac ob now = _ from s1]
   simp only [q0,qb,cB,Yt]; rfl
  rw [qQm h7,qQm h8,qQm h9,aer l s hl hs]
  show rB _ = rB (bif decide (o = 7) then _ else bif decide (o = 8) then _ else bif decide (o = 9) then _ else _)
  rw [qQm h7,qQm h8,qQm h9]; rfl
end Go.Proofs.YtaghmjcfaplkiaaGreat.Eng
/- half -/
