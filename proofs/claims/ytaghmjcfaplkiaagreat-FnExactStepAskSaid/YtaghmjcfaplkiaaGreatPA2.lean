/- What functions over lists of facts,revocations,saved decisions compute. -/
import Derived.Test.YtaghmjcfaplkiaaGreatPA1
namespace Go.Proofs.YtaghmjcfaplkiaaGreat.Eng
open Go.RowKit
set_option linter.unusedVariables false
set_option linter.unusedSimpArgs false
set_option linter.unusedSectionVars false
set_option maxRecDepth 100000
variable [Sm]
def has (xs : LL) (v : Int) : Bool:=xs.any fun x=>decide (v0 x = v)
theorem XU (xs : LL) (hx : xs.length ≤ 4611686018427387904) (v : Int) : Ls.c xs v = rB (has xs v):=by
 rw [Ls.eq]
 refine (Yl (l0:=fun i=>Ls.l0 xs v i) (n:=xs.length) (p:=fun i=>decide (v0 (xs.getD i []) = v)) ?_ fun i hi=>?_).trans (qQq rB (Ri xs [] fun x=>decide (v0 x = v)))
 ·rw [Ls.Fx,FO (qQb _)]; rfl
 ·rw [Ls.Fx,FN hi,FU hi,FZ (by omega)]; rfl
theorem acW (xs : LL) (hx : xs.length ≤ 4611686018427387904) (v : Int) : Mx.c xs v = rI (pos (fun i=>decide (v = v0 (xs.getD i []))) xs.length 0):=by
 rw [Mx.eq]
 refine La (l0:=fun i=>Mx.l0 xs v _ i) (n:=xs.length) (p:=fun i=>decide (v = v0 (xs.getD i []))) ?_ fun i hi=>?_
 ·rw [Mx.Fx,FO (qQb _)]; rfl
 ·rw [Mx.Fx,FN hi,FU hi,FZ (by omega)]; rfl
theorem Ql {xs : LL} (q : List U → Bool) : decide (pos (fun i=>q (xs.getD i [])) xs.length 0 ≥ 0) = xs.any q:=by
 rw [ZB,← qXv,Ri xs [] q]
theorem Xb (xs : LL) (hx : xs.length ≤ 4611686018427387904) (v : Int) : PR.c xs v = rB (has xs v):=by
 rw [PR.eq,acW xs hx]
 show rB (decide (pos _ _ _ ≥ 0)) = _
 rw [Ql fun x=>decide (v = v0 x)]
 simp only [has,eq_comm]
theorem ab6 (xs : LL) (q : List U → Bool) : (pos (fun i=>q (xs.getD i [])) xs.length 0 = -1 ∧ xs.find? q = none) ∨ ∃ j : Nat,pos (fun i=>q (xs.getD i [])) xs.length 0 = (j : Int) ∧ j < xs.length ∧ xs.find? q = some (xs.getD j []):=by
 have key : ∀ k i,i + k = xs.length → (pos (fun i=>q (xs.getD i [])) k i = -1 ∧ (xs.drop i).find? q = none) ∨ ∃ j : Nat,pos (fun i=>q (xs.getD i [])) k i = (j : Int) ∧ j < xs.length ∧ (xs.drop i).find? q = some (xs.getD j []):=by
  intro k
  induction k with
  | zero=>intro i h; left; exact ⟨rfl,by rw [List.drop_eq_nil_of_le (by omega)]; rfl⟩
  | succ k ih =>
   intro i h
   have hi : i < xs.length:=by omega
   rw [Qs hi,List.find?_cons]
   unfold pos
   cases hq : q (xs.getD i [])
   ·simp only [qZv,qZe]
    exact ih (i + 1) (by omega)
   ·right
    exact ⟨i,by simp,hi,rfl⟩
 simpa using key xs.length 0 (by omega)
/-- Where something is: -1 if nowhere. -/
def Gb (xs : LL) (q : List U → Bool) : Int:=pos (fun i=>q (xs.getD i [])) xs.length 0
theorem NK (xs : LL) (q : List U → Bool) : (Gb xs q = -1 ∧ xs.find? q = none) ∨ ∃ j : Nat,Gb xs q = (j : Int) ∧ j < xs.length ∧ xs.find? q = some (xs.getD j []):=ab6 xs q
/-- When a serial was revoked. -/
def Rj (xs : LL) (v : Int) : Int:=match xs.find? fun x=>decide (v0 x = v) with
 | some x=>ui x 1
 | none=>-1
theorem aez (xs : LL) (hx : xs.length ≤ 4611686018427387904) (v : Int) : My.c xs v = rI (Rj xs v):=by
 rw [My.eq]
 have key : ∀ i,i ≤ xs.length → My.l0 xs v (i : Int) = rI (Rj (xs.drop i) v):=by
  refine down xs.length ?_ ?_
  ·rw [My.Fx,FO (qQb _),qYz]; rfl
  ·intro i hi h
   rw [My.Fx,FN hi,FU hi,FZ (by omega),Qs hi,h]
   unfold Rj
   rw [List.find?_cons]
   show (bif decide (v0 (xs.getD i []) = v) then _ else _) = _
   cases decide (v0 (xs.getD i []) = v) <;> rfl
 have:=key 0 (qQt _)
 rwa [qYp] at this
theorem adb (xs : LL) (hx : xs.length ≤ 4611686018427387904) (v : Int) : SH.c xs v = rI (Rj xs v):=by
 have : Mr.c xs v = rI (Gb xs fun x=>decide (v0 x = v)):=by
  rw [Mr.eq]
  refine La (l0:=fun i=>Mr.l0 xs v _ i) (n:=xs.length) (p:=fun i=>decide (v0 (xs.getD i []) = v)) ?_ fun i hi=>?_
  ·rw [Mr.Fx,FO (qQb _)]; rfl
  ·rw [Mr.Fx,FN hi,FU hi,FZ (by omega),VS.eq]; rfl
 rw [SH.eq,this]
 unfold Rj
 simp only [q0,qi]
 rcases NK xs fun x=>decide (v0 x = v) with ⟨h1,h2⟩ | ⟨j,h1,h2,h3⟩
 ·rw [h1,h2]; rfl
 ·rw [h1,h3]
  show (bif decide ((j : Int) < 0) then _ else EK (dE (j : Int) xs.length) (rI (ui (xs.getD j []) 1))) = _
  rw [qQm (by omega : ¬ ((j : Int) < 0)),FU h2]; rfl
def NM (xs : LL) (v now : Int) : Bool:=within (Rj xs v) 0 now
theorem aeA (xs : LL) (hx : xs.length ≤ 4611686018427387904) (v now : Int) : Uv.c xs v now = rB (NM xs v now):=by
 rw [Uv.eq,aez _ hx]; simp only [q0,qi,cB,GX]; rfl
theorem ade (xs : LL) (hx : xs.length ≤ 4611686018427387904) (v now : Int) : Sz.c xs v now = rB (NM xs v now):=by
 rw [Sz.eq,adb _ hx]; simp only [q0,qi,qb,HQ]; rfl
/-! ### Requests -/
def HR (p d g a o n : Int) : Bool:=Hw p 1 && (Hw d 2 && (Hw g 3 && (Hw o 4 && (within a 0 5 && within n 0 10000))))
theorem XW (p d g a o n : Int) : PZ.c p d g a o n = rB (HR p d g a o n):=by simp only [PZ.eq,PQ,Ij,NN,q0,qb,cB,GX]; rfl
theorem Xd (p d g a o n : Int) : Ps.c p d g a o n = rB (HR p d g a o n):=by simp only [Ps.eq,Pm,HQ,NG,q0,qb,cB,GX]; rfl
def Rm (a0 a1 a2 a3 a4 b0 b1 b2 b3 b4 : Int) : Bool:=decide (a0 = b0) && (decide (a1 = b1) && (decide (a2 = b2) && (decide (a3 = b3) && decide (a4 = b4))))
theorem aas (a0 a1 a2 a3 a4 a5 b0 b1 b2 b3 b4 b5 : Int) : Rx.c a0 a1 a2 a3 a4 a5 b0 b1 b2 b3 b4 b5 = rB (Rm a0 a1 a2 a3 a4 b0 b1 b2 b3 b4):=by
 simp only [Rx.eq,PV.eq,q0]
 show rB (decide (a0 = b0) && (decide (a1 = b1) && (decide (a2 = b2) && (decide (a3 = b3) && (decide (a4 = b4) && (decide ((0 : Int) = 0) && true)))))) = _
 simp [Rm]
theorem Zg (a0 a1 a2 a3 a4 a5 b0 b1 b2 b3 b4 b5 : Int) : QH.c a0 a1 a2 a3 a4 a5 b0 b1 b2 b3 b4 b5 = rB (Rm a0 a1 a2 a3 a4 b0 b1 b2 b3 b4):=by
 simp only [QH.eq,Ou.eq,q0]
 show rB (decide (a0 = b0) && (decide (a1 = b1) && (decide (a2 = b2) && (decide (a3 = b3) && (decide (a4 = b4) && (decide (b5 = b5) && true)))))) = _
 simp [Rm]
/-- A saved decision's row answers a request. -/
def KT (p d g a o n : Int) (x : List U) : Bool:=Rm (ui x 0) (ui x 1) (ui x 2) (ui x 3) (ui x 4) p d g a o && (decide (ui x 5 ≤ n) && decide (n ≤ ui x 7))
theorem aeH (xs : LL) (hx : xs.length ≤ 4611686018427387904) (p d g a o n : Int) : Ln.c xs p d g a o n = rI (Gb xs (KT p d g a o n)):=by
 rw [Ln.eq]
 refine La (l0:=fun i=>Ln.l0 xs i p d g a o n) (n:=xs.length) (p:=fun i=>KT p d g a o n (xs.getD i [])) ?_ fun i hi=>?_
 ·rw [Ln.Fx,FO (qQb _)]; rfl
 ·rw [Ln.Fx,FN hi,FU hi,FZ (by omega)]
  simp only [aas,q0,qb,Hv,e2,qQh]; rfl
theorem adk (xs : LL) (hx : xs.length ≤ 4611686018427387904) (p d g a o n : Int) : Sr.c xs p d g a o n = rI (Gb xs (KT p d g a o n)):=by
 have : Mo.c xs p d g a o n = rI (Gb xs (KT p d g a o n)):=by
  rw [Mo.eq]
  refine La (l0:=fun i=>Mo.l0 xs p d g a o n _ i) (n:=xs.length) (p:=fun i=>KT p d g a o n (xs.getD i [])) ?_ fun i hi=>?_
  ·rw [Mo.Fx,FO (qQb _)]; rfl
  ·rw [Mo.Fx,FN hi,FU hi,FZ (by omega),VN.eq]
   simp only [Zg,q0,qb,Hv,cB,GX,qQh]; rfl
 rw [Sr.eq,this]; rfl
/-! ### Facts -/
def Qv (k s v now FY : Int) (x : List U) : Bool:=decide (ui x 0 = k) && (decide (ui x 1 = s) && (decide (ui x 2 = v) && Qu x now FY))
theorem aek (xs : LL) (hx : xs.length ≤ 4611686018427387904) (k s v now FY : Int) : KU.c xs k s v now FY = rI (Gb xs (Qv k s v now FY)):=by
 rw [KU.eq]
 refine La (l0:=fun i=>KU.l0 xs k s v now FY i) (n:=xs.length) (p:=fun i=>Qv k s v now FY (xs.getD i [])) ?_ fun i hi=>?_
 ·rw [KU.Fx,FO (qQb _)]; rfl
 ·rw [KU.Fx,FN hi,FU hi,FZ (by omega)]
  simp only [XV,q0,qb,Hv,e2,qQh]; rfl
theorem acS (xs : LL) (hx : xs.length ≤ 4611686018427387904) (k s v now FY : Int) : Sq.c xs k s v now FY = rI (Gb xs (Qv k s v now FY)):=by
 have : Mn.c xs k s v now FY = rI (Gb xs (Qv k s v now FY)):=by
  rw [Mn.eq]
  refine La (l0:=fun i=>Mn.l0 xs k s v now FY _ i) (n:=xs.length) (p:=fun i=>Qv k s v now FY (xs.getD i [])) ?_ fun i hi=>?_
  ·rw [Mn.Fx,FO (qQb _)]; rfl
  ·rw [Mn.Fx,FN hi,FU hi,FZ (by omega),VM.eq]
   simp only [Xc,q0,qb,Hv,cB,GX,qQh]; rfl
 rw [Sq.eq,this]; rfl
def RG (k s now FY b : Int) (x : List U) : Int:=bif decide (ui x 0 = k) && (decide (ui x 1 = s) && Qu x now FY) then max b (ui x 2) else b
def Vi (xs : LL) (k s now FY : Int) : Int:=xs.foldl (RG k s now FY) (-1)
theorem aan (a b : Int) : Rv.c a b = rI (max a b):=by
 rw [Rv.eq]
 by_cases h : b > a
 ·rw [qQa h,Int.max_eq_right (by omega)]; rfl
 ·rw [qQm h,Int.max_eq_left (by omega)]; rfl
theorem ad4 (xs : LL) (hx : xs.length ≤ 4611686018427387904) (k s now FY : Int) : Kg.c xs k s now FY = rI (Vi xs k s now FY):=by
 rw [Kg.eq]
 refine NW (l0:=fun b i=>Kg.l0 xs k s now FY b i) (R:=rI) (st:=RG k s now FY) (fun b=>?_) (fun i hi b=>?_) (-1)
 ·rw [Kg.Fx,FO (qQb _)]; rfl
 ·rw [Kg.Fx,FN hi,FU hi,FZ (by omega)]
  simp only [XV,aan,q0,qb,qi,Hv,qQh]
  unfold RG Qu
  simp only [gi,ui,qQd]
  cases decide (((xs.getD i []).getD 0 U0).toInt = k) <;> cases decide (((xs.getD i []).getD 1 U0).toInt = s) <;> first | rfl | skip
  cases NY _ _ _ _ _ _ now FY <;> rfl
theorem acC (xs : LL) (hx : xs.length ≤ 4611686018427387904) (k s now FY : Int) : Jk.c xs k s now FY = rI (Vi xs k s now FY):=by
 rw [Jk.eq]
 refine NW (l0:=fun b i=>Jk.l0 k s now FY b xs _ i) (R:=rI) (st:=RG k s now FY) (fun b=>?_) (fun i hi b=>?_) (-1)
 ·rw [Jk.Fx,FO (qQb _)]; rfl
 ·rw [Jk.Fx,FN hi,FU hi,FZ (by omega)]
  simp only [Xc,Zt,q0,qb,qi,Hv,qQh]
  unfold RG Qu
  simp only [gi,ui,qQd]
  cases decide (((xs.getD i []).getD 0 U0).toInt = k) <;> cases decide (((xs.getD i []).getD 1 U0).toInt = s) <;> first | rfl | skip
  cases NY _ _ _ _ _ _ now FY <;> rfl
end Go.Proofs.YtaghmjcfaplkiaaGreat.Eng
/- half -/
