/- What small functions compute: ranges,times,names,keys,facts,certificates,hashes. -/
import Derived.Test.YtaghmjcfaplkiaaGreatPN
import Derived.Test.YtaghmjcfaplkiaaGreatFAll
namespace Go.Proofs.YtaghmjcfaplkiaaGreat.Eng
open Go.RowKit
set_option linter.unusedVariables false
set_option linter.unusedSimpArgs false
set_option linter.unusedSectionVars false
set_option maxRecDepth 100000
variable [Sm]
abbrev v0 (x : List U) : Int:=ui x 0
def within (a lo hi : Int) : Bool:=decide (lo ≤ a) && decide (a ≤ hi)
theorem Gx {a lo hi : Int} (h : within a lo hi = true) : lo ≤ a ∧ a ≤ hi:=by simpa [within] using h
theorem Yd {a lo hi : Int} (h : lo ≤ a) (h' : a ≤ hi) : within a lo hi = true:=by simp [within,h,h']
theorem Ij (a lo hi : Int) : Gw.c a lo hi = rB (within a lo hi):=by simp only [Gw.eq,cB,GX]; rfl
theorem HQ (a lo hi : Int) : Ga.c a lo hi = rB (within a lo hi):=by simp only [Ga.eq,cB,GX]; rfl
theorem NN (a : Int) : GQ.c a = rB (within a 0 10000):=by simp only [GQ.eq,Ij,q0,qb]
theorem NG (a : Int) : IP.c a = rB (within a 0 10000):=by simp only [IP.eq,HQ,q0,qb]
theorem aao (a : Int) : Rq.c a = rB (within a 10 49):=by simp only [Rq.eq,Ij,q0,qb]
theorem Zd (a : Int) : Pr.c a = rB (within a 10 49):=by simp only [Pr.eq,HQ,q0,qb]
theorem aep (a : Int) : Ux.c a = rB (within a 1 2147483646):=by simp only [Ux.eq,Ij,q0,qb]
theorem acZ (a : Int) : SC.c a = rB (within a 1 2147483646):=by simp only [SC.eq,HQ,q0,qb]
def Hw (a k : Int) : Bool:=within a 10 49 && decide (a.tdiv 10 = k)
theorem aaI {a : Int} (h : within a 10 49 = true) : Ft (a.tdiv 10) = a.tdiv 10:=by
 obtain ⟨h1,h2⟩:=Gx h
 rw [Int.tdiv_eq_ediv_of_nonneg (by omega),Jg (by omega) (by omega)]
theorem PQ (a k : Int) : Je.c a k = rB (Hw a k):=by
 simp only [Je.eq,aao,q0,qb,cB,GX]
 unfold Hw
 cases h : within a 10 49
 ·rfl
 ·rw [aaI h]
theorem Pm (a k : Int) : IN.c a k = rB (Hw a k):=by
 simp only [IN.eq,VQ.eq,Zd,q0,qb]
 unfold Hw
 cases h : within a 10 49
 ·rfl
 ·simp only [aaI h]; rfl
def QO (a b t : Int) : Bool:=within a 0 10000 && (within b 0 10000 && (within t 0 10000 && within t a b))
theorem aaw (a b t : Int) : Rt.c a b t = rB (QO a b t):=by simp only [Rt.eq,NN,q0,qb,cB,GX]; rfl
theorem Zl (a b t : Int) : QE.c a b t = rB (QO a b t):=by simp only [QE.eq,NG,HQ,q0,qb,cB,GX]; rfl
def LP (a b : Int) : Int:=bif within a 0 10000 then (bif within b 0 10000 then (bif decide (a > b) then -1 else Ft (b - a)) else -1) else -1
theorem adZ (a b : Int) : Um.c a b = rI (LP a b):=by simp only [Um.eq,NN,q0,qb,Nb,cI]; rfl
theorem YT (a b : Int) : QA.c a b = rI (LP a b):=by simp only [QA.eq,NG,q0,qb,Nb,cI]; rfl
theorem aaL (a b : Int) : LP a b = -1 ∨ (0 ≤ LP a b ∧ LP a b = b - a ∧ within a 0 10000 = true ∧ within b 0 10000 = true ∧ a ≤ b):=by
 unfold LP
 cases h1 : within a 0 10000
 ·exact .inl rfl
 cases h2 : within b 0 10000
 ·exact .inl rfl
 obtain ⟨h3,h4⟩:=Gx h1
 obtain ⟨h5,h6⟩:=Gx h2
 by_cases h : a > b
 ·rw [qQa h]; exact .inl rfl
 ·rw [qQm h]
  right
  have : Ft (b - a) = b - a:=Jg (by omega) (by omega)
  simp only [qQh,qQ3,this]
  exact ⟨by omega,trivial,trivial,trivial,by omega⟩
theorem aaM {a b : Int} (h1 : within a 0 10000 = true) (h2 : within b 0 10000 = true) (h : a ≤ b) : LP a b = b - a:=by
 unfold LP
 obtain ⟨h3,h4⟩:=Gx h1
 obtain ⟨h5,h6⟩:=Gx h2
 rw [h1,h2,qQm (by omega)]
 exact Jg (by omega) (by omega)
def Lv (a b m : Int) : Bool:=decide (0 ≤ LP a b) && decide (LP a b ≤ m)
theorem aai (a b m : Int) : Rp.c a b m = rB (Lv a b m):=by simp only [Rp.eq,adZ,q0,qi,cB,GX]; rfl
theorem acU (a b m : Int) : Sx.c a b m = rB (Lv a b m):=by
 simp only [Sx.eq,YT,q0,qi,cB,GX]
 show rB (!decide (LP a b = -1) && decide (LP a b ≤ m)) = _
 unfold Lv
 rcases aaL a b with h | ⟨h,_⟩
 ·rw [h]; rfl
 ·rw [qQa h,qQm (show ¬ LP a b = -1 by omega)]; rfl
def Yu (k s v : Int) : Bool:=bif decide (k = 1) then (Hw s 1 && within v 0 5) else bif decide (k = 2) then (Hw s 1 && Hw v 2) else bif decide (k = 3) then (Hw s 2 && within v 0 3) else (decide (k = 4) && (Hw s 3 && within v 0 3))
def Wa (k s v i a u : Int) : Bool:=Yu k s v && (within i 0 9 && (within a 0 10000 && (within u 0 10000 && decide (a ≤ u))))
theorem acR (k s v i a u : Int) : Sv.c k s v i a u = rB (Wa k s v i a u):=by
 simp only [Sv.eq,VW.eq,Pm,HQ,NG,q0,qb,cB,GX]; rfl
theorem aej (k s v i a u : Int) : Us.c k s v i a u = rB (Wa k s v i a u):=by
 simp only [Us.eq,PQ,Ij,NN,q0,qb,cB,GX]
 unfold Wa Yu
 cases decide (k = 1) <;> cases decide (k = 2) <;> cases decide (k = 3) <;> cases decide (k = 4) <;> simp only [qQh,qQ3,Bool.and_assoc,Bool.false_and,qXb]
def NY (k s v i a u now FY : Int) : Bool:=Wa k s v i a u && (QO a u now && Lv a now FY)
theorem XV (k s v i a u now FY : Int) : PX.c k s v i a u now FY = rB (NY k s v i a u now FY):=by
 simp only [PX.eq,aej,aaw,aai,q0,qb,cB,GX]; rfl
theorem Xc (k s v i a u now FY : Int) : Pp.c k s v i a u now FY = rB (NY k s v i a u now FY):=by
 simp only [Pp.eq,acR,Zl,YT,q0,qb,qi,cB,GX]
 unfold NY
 cases hw : QO a u now
 ·rfl
 ·unfold QO at hw
  simp only [qQi] at hw
  obtain ⟨h1,h2,h3,h4⟩:=hw
  obtain ⟨h5,h6⟩:=Gx h4
  unfold Lv
  rw [aaM h1 h3 h5,qQa (show 0 ≤ now - a by omega)]; rfl
/-- The fact of a row. -/
def Qu (x : List U) (now FY : Int) : Bool:=NY (ui x 0) (ui x 1) (ui x 2) (ui x 3) (ui x 4) (ui x 5) now FY
def VZ (s b k f u : Int) : Bool:=within s 1 9999 && (within b 10 49 && (within k 1 2147483646 && (within f 0 10000 && (within u 0 10000 && within (Ft (u - f)) 0 50))))
theorem acD (s b k f u m : Int) : Ss.c s b k f u m = rB (VZ s b k f u):=by
 simp only [Ss.eq,HQ,Zd,acZ,NG,q0,qb,cB,GX]; rfl
theorem ad5 (s b k f u m : Int) : Uq.c s b k f u m = rB (VZ s b k f u):=by
 simp only [Uq.eq,Ij,aao,aep,NN,q0,qb,cB,GX]
 unfold VZ
 cases h1 : within f 0 10000
 ·simp
 cases h2 : within u 0 10000
 ·simp
 obtain ⟨h3,h4⟩:=Gx h1
 obtain ⟨h5,h6⟩:=Gx h2
 have e : Ft (u - f) = u - f:=Jg (by omega) (by omega)
 have e2 : (decide (f ≤ u) && decide (Ft (u - f) ≤ 50)) = within (Ft (u - f)) 0 50:=by
  rw [e]; unfold within
  rw [show decide (f ≤ u) = decide (0 ≤ u - f) from by rw [decide_eq_decide]; omega]
 rw [e2]
/-! ### Hashes -/
def md (n : Int) : Int:=(Ft (n.tmod 2147483647 + 2147483647)).tmod 2147483647
theorem aew (n : Int) : UB.c n 2147483647 = rI (md n):=by simp only [UB.eq,Ij,q0,qb]; rfl
theorem ac8 (n : Int) : SG.c n 2147483647 = rI (md n):=by simp only [SG.eq,HQ,q0,qb]; rfl
def lN (d : Int) (x : List U) : Int:=(Ft (Ft (Ft (d * 1000003) + md (v0 x)) + 13)).tmod 2147483647
def Oo (xs : LL) : Int:=xs.foldl lN 11
theorem aak (xs : LL) (hx : xs.length ≤ 4611686018427387904) : KV.c xs = rI (Oo xs):=by
 rw [KV.eq]
 refine NW (l0:=fun s i=>KV.l0 xs s i) (R:=rI) (st:=lN) (fun s=>?_) (fun i hi s=>?_) 11
 ·rw [KV.Fx,FO (qQb _)]; rfl
 ·show _ = _
  rw [KV.Fx,FN hi,FU hi,aew,FZ (by omega)]; rfl
theorem Zc (xs : LL) (hx : xs.length ≤ 4611686018427387904) : Kk.c xs = rI (Oo xs):=by
 rw [Kk.eq]
 refine NW (l0:=fun s i=>Kk.l0 s xs _ i) (R:=rI) (st:=lN) (fun s=>?_) (fun i hi s=>?_) 11
 ·rw [Kk.Fx,FO (qQb _)]; rfl
 ·show _ = _
  rw [Kk.Fx,FN hi,FU hi,ac8,FZ (by omega)]; rfl
def Xl (k : Int) (xs : LL) : Int:=Oo ([[U.int k]] ++ xs ++ [[U.int k]])
theorem aeq (k : Int) (xs : LL) (hx : xs.length ≤ 1048576) : Uy.c k xs = rI (Xl k xs):=by
 rw [Uy.eq,Qx (FV (by simp; omega) (by simp; omega)),Qx (FV (by simp; omega) (by simp; omega)),aak _ (by simp; omega)]; rfl
theorem ac0 (k : Int) (xs : LL) (hx : xs.length ≤ 1048576) : SD.c k xs = rI (Xl k xs):=by
 have h : Hj.c [[U.lst [[U.int k]]],[U.lst xs],[U.lst [[U.int k]]]] = rL ([[U.int k]] ++ xs ++ [[U.int k]]):=by
  have e1 : Ft (0 + 1) = 1:=by decide
  have e2 : Ft (1 + 1) = 2:=by decide
  have e3 : Ft (2 + 1) = 3:=by decide
  have f1 : Ft (1 + (xs.length : Int)) = ((xs.length + 1 : Nat) : Int):=by rw [show Ft (1 + (xs.length : Int)) = 1 + (xs.length : Int) from Jg (by omega) (by omega)]; omega
  have f2 : Ft (((xs.length + 1 : Nat) : Int) + 1) = ((xs.length + 2 : Nat) : Int):=FZ (by omega)
  have d1 : decide ((1 : Int) < 0) = false:=by decide
  have d2 : decide ((((xs.length + 1 : Nat) : Int)) < 0) = false:=qQm (by omega)
  have d3 : decide ((((xs.length + 2 : Nat) : Int)) < 0) = false:=qQm (by omega)
  have l1 : Hj.l1 [[U.lst [[U.int k]]],[U.lst xs],[U.lst [[U.int k]]]] 3 0 [] = rL ([[U.int k]] ++ xs ++ [[U.int k]]):=by
   rw [Hj.IE]
   show EK (room (0 + 1) 8) (Hj.l1 _ 3 (Ft (0 + 1)) ([] ++ [[U.int k]])) = _
   rw [Qx (by decide),e1,Hj.IE]
   show EK (room (1 + xs.length) 8) (Hj.l1 _ 3 (Ft (1 + 1)) ([] ++ [[U.int k]] ++ xs)) = _
   rw [Qx (FV (by omega) (by omega)),e2,Hj.IE]
   show EK (room (([] ++ [[U.int k]] ++ xs).length + 1) 8) (Hj.l1 _ 3 (Ft (2 + 1)) ([] ++ [[U.int k]] ++ xs ++ [[U.int k]])) = _
   rw [Qx (FV (by simp; omega) (by simp; omega)),e3,Hj.IE]
   rfl
  rw [Hj.eq,Hj.Fx]
  show (bif decide (Ft (0 + 1) < 0) then none else Hj.l0 _ (Ft (0 + 1)) _ 3 (Ft (0 + 1))) = _
  rw [e1,d1,qQ3,Hj.Fx]
  show (bif decide (Ft (1 + (xs.length : Int)) < 0) then none else Hj.l0 _ (Ft (1 + (xs.length : Int))) _ 3 (Ft (1 + 1))) = _
  rw [f1,d2,qQ3,e2,Hj.Fx]
  show (bif decide (Ft (((xs.length + 1 : Nat) : Int) + 1) < 0) then none else Hj.l0 _ (Ft (((xs.length + 1 : Nat) : Int) + 1)) _ 3 (Ft (2 + 1))) = _
  rw [f2,d3,qQ3,e3,Hj.Fx]
  show EK (decide ((0 : Int) ≤ ((xs.length + 2 : Nat) : Int)) && room (((xs.length + 2 : Nat) : Int)).toNat 8) (Hj.l1 _ 3 0 []) = _
  rw [qQd,Qx (by rw [FV (by omega) (by omega),qQa (by omega)]; rfl),l1]
 rw [SD.eq,h]
 simp only [q0,ql]
 rw [Zc _ (by simp; omega)]; rfl
/-- A certificate is what it was marked as. -/
def RV (k s b y f u : Int) : Int:=Xl k [[U.int s],[U.int b],[U.int y],[U.int f],[U.int u]]
theorem aes (k s b y f u m : Int) : UA.c k s b y f u m = some ⟨[[.int s,.int b,.int y,.int f,.int u,.int (RV k s b y f u)]],[]⟩:=by
 rw [UA.eq,aeq _ _ (by simp)]; rfl
theorem ac4 (k s b y f u m : Int) : SF.c k s b y f u m = some ⟨[[.int s,.int b,.int y,.int f,.int u,.int (RV k s b y f u)]],[]⟩:=by
 rw [SF.eq,ac0 _ _ (by simp)]; rfl
def MK (k s b y f u m now : Int) : Bool:=VZ s b y f u && (QO f u now && decide (RV k s b y f u = m))
theorem ad7 (k s b y f u m now : Int) : Un.c k s b y f u m now = rB (MK k s b y f u m now):=by
 simp only [Un.eq,ad5,aaw,aes,q0,qb,cB,GX]
 unfold MK
 congr 3
 show (decide (s = s) && (decide (b = b) && (decide (y = y) && (decide (f = f) && (decide (u = u) && (decide (RV k s b y f u = m) && true)))))) = _
 simp
theorem acF (k s b y f u m now : Int) : Sl.c k s b y f u m now = rB (MK k s b y f u m now):=by
 simp only [Sl.eq,acD,Zl,ac4,q0,qb,cB,GX]
 unfold MK
 congr 3
 show (decide (s = s) && (decide (b = b) && (decide (y = y) && (decide (f = f) && (decide (u = u) && (decide (RV k s b y f u = m) && true)))))) = _
 simp
end Go.Proofs.YtaghmjcfaplkiaaGreat.Eng
/- half -/
