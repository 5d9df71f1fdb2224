/- Roles: who is under whom,which roles one has. -/
import Derived.Test.YtaghmjcfaplkiaaGreatPA2
import Derived.Test.YtaghmjcfaplkiaaGreatPG
namespace Go.Proofs.YtaghmjcfaplkiaaGreat.Eng
open Go.RowKit
set_option linter.unusedVariables false
set_option linter.unusedSimpArgs false
set_option linter.unusedSectionVars false
set_option maxRecDepth 100000
variable [Sm]
def Ht (f : Mk) : LL:=(List.range 6).map fun k=>[U.bool (f k)]
theorem Uj (f : Mk) : (Ht f).length = 6:=by simp [Ht]
theorem aab (f : Mk) {i : Nat} (h : i < 6) : (Ht f).getD i [] = [U.bool (f i)]:=by
 unfold Ht
 rw [qQe,qQj,qZy h]; rfl
theorem XR (f : Mk) {i : Nat} (h : i < 6) : gb (Ht f) (i : Int) 0 = f i:=by
 unfold gb
 rw [qQd,aab f h]; rfl
theorem XS (f : Mk) {i : Nat} (h : i < 6) : bY (Ht f) i 0 [U.bool true] = Ht (up f i):=by
 rw [Gp,aab f h]
 apply qZm
 intro k
 show ((Ht f).set i [U.bool true])[k]? = _
 rw [qQ9,Uj]
 unfold Ht
 by_cases hk : i = k
 ·subst hk
  rw [if_pos rfl,if_pos h,qQj,qZy h]
  simp [up]
 ·rw [if_neg hk,qQj,qQj]
  by_cases h6 : k < 6
  ·rw [qZy h6]
   simp [up,Ne.symm hk]
  ·rw [qZh (by simpa using h6)]; rfl
theorem adV {r : Nat} (h : r < 6) : bY (List.replicate (Int.toNat 6) [U.bool false]) r 0 [U.bool true] = Ht (fun k=>decide (k = r)):=by
 have e : List.replicate (Int.toNat 6) [U.bool false] = Ht fun _=>false:=rfl
 rw [e,XS _ h]
 congr 1
 funext k
 simp [up]
def HS (f : Mk) : LL:=((List.range 6).filter f).map fun k : Nat=>[U.int (k : Int)]
theorem Wk (f : Mk) : (HS f).length ≤ 6:=by
 unfold HS
 rw [qQk]; exact qZd (qYv _ _) (by simp)
theorem Ub {f : Mk} {x : List U} : x ∈ HS f ↔ ∃ k : Nat,k < 6 ∧ f k = true ∧ x = [U.int (k : Int)]:=by
 simp only [HS,qQo,qZa,qZt]
 constructor
 ·rintro ⟨k,⟨h1,h2⟩,rfl⟩; exact ⟨k,h1,h2,rfl⟩
 ·rintro ⟨k,h1,h2,rfl⟩; exact ⟨k,⟨h1,h2⟩,rfl⟩
open Classical in
noncomputable def OX (l : LL) (r : Nat) : Mk:=fun k=>decide (IK l r k)
noncomputable def under (l : LL) (role : Int) : LL:=bif within role 0 5 then HS (OX l role.toNat) else []
theorem aaG (l : LL) (role : Int) : (under l role).length ≤ 6:=by
 unfold under
 cases within role 0 5
 ·exact qQt _
 ·exact Wk _
theorem adM (l : LL) {r : Nat} (h : r < 6) : OE l 6 (fun k=>decide (k = r)) = OX l r:=by
 funext k
 rw [qXi,adL l h]
 simp [OX]
theorem aeC (f : Mk) : GJ.l2 0 [] (Ht f) = rL (HS f):=by
 refine Ph (l0:=fun i s=>GJ.l2 i s (Ht f)) (n:=6) (p:=f) (row:=fun k=>[U.int (k : Int)]) (R:=fun s=>rL s) (fun s hs=>?_) fun i hi s hs=>?_
 ·rw [GJ.SO]; rfl
 ·rw [GJ.SO,qQa (by omega),Uj,FU hi,FZ (by omega),XR f hi,FV (by simp; omega) (by simp; omega)]; rfl
theorem aeB (l : LL) (hl : l.length ≤ 4611686018427387904) (n : Int) (f : Mk) : GJ.l1 l n 0 [] (Ht f) = GJ.l0 l (Ft (n + 1)) [] (Ht (pass l f)):=by
 refine NW (l0:=fun (f : Mk) i=>GJ.l1 l n i [] (Ht f)) (R:=fun f=>GJ.l0 l (Ft (n + 1)) [] (Ht f)) (st:=PF) (fun f=>?_) (fun i hi f=>?_) f
 ·rw [GJ.IE,FO (qQb _)]; rfl
 ·rw [GJ.IE,FN hi,FU hi,FZ (by omega)]
  simp only [Ij,q0,qb,Hv,qQh,gi,qQd,Uj]
  unfold PF
  have e : PE (l.getD i []) = (within (((l.getD i []).getD 0 U0).toInt) 0 5 && within (((l.getD i []).getD 1 U0).toInt) 0 5):=rfl
  rw [e]
  generalize ha : ((l.getD i []).getD 0 U0).toInt = a
  generalize hb : ((l.getD i []).getD 1 U0).toInt = b
  have ea : ui (l.getD i []) 0 = a:=ha
  have eb : ui (l.getD i []) 1 = b:=hb
  cases h1 : within a 0 5
  ·rfl
  cases h2 : within b 0 5
  ·rfl
  obtain ⟨h3,h4⟩:=Gx h1
  obtain ⟨h5,h6⟩:=Gx h2
  obtain ⟨a,rfl⟩:=qXq h3
  obtain ⟨b,rfl⟩:=qXq h5
  rw [ea,eb]
  simp only [qQh,FU (show a < 6 by omega),FU (show b < 6 by omega),Hv,XR f (show a < 6 by omega),qQd,XS f (show b < 6 by omega)]
  cases f a <;> rfl
theorem aaq (l : LL) (hl : l.length ≤ 4611686018427387904) : ∀ (k n : Nat) (f : Mk),n + k = 6 → GJ.l0 l (n : Int) [] (Ht f) = rL (HS (OE l k f))
 | 0,n,f,h=>by
  obtain rfl : n = 6:=by omega
  rw [GJ.Fx]
  show GJ.l2 0 [] (Ht f) = _
  rw [aeC]; rfl
 | k + 1,n,f,h=>by
  rw [GJ.Fx,qQa (by omega),qQh,aeB l hl,FZ (by omega),aaq l hl k (n + 1) _ (by omega)]; rfl
theorem aeM (l : LL) (hl : l.length ≤ 4611686018427387904) (role : Int) : GJ.c l role = rL (under l role):=by
 rw [GJ.eq,Ij]
 simp only [q0,qb]
 unfold under
 cases h : within role 0 5
 ·rfl
 ·obtain ⟨h1,h2⟩:=Gx h
  obtain ⟨r,rfl⟩:=qXq h1
  simp only [qXa,qQ3,qQh,qQd,adV (show r < 6 by omega)]
  show EK (dE (r : Int) 6) _ = _
  rw [FU (show r < 6 by omega),Hv]
  have:=aaq l hl 6 0 (fun k=>decide (k = r)) rfl
  rw [adM l (by omega)] at this
  exact this
/-- The roles that someone has. -/
def PJ (p now FY : Int) (x : List U) : Bool:=decide (ui x 0 = 1) && (decide (ui x 1 = p) && Qu x now FY)
noncomputable def Uc (l : LL) (p now FY : Int) (f : Mk) (x : List U) : Mk:=bif PJ p now FY x then fun k=>(bif within (ui x 2) 0 5 then (decide (k < 6) && OX l (ui x 2).toNat k) else false) || f k else f
noncomputable def XI (l s : LL) (p now FY : Int) : Mk:=s.foldl (Uc l p now FY) fun _=>false
theorem aeD (f : Mk) : GI.l2 0 (Ht f) [] = rL (HS f):=by
 refine Ph (l0:=fun i s=>GI.l2 i (Ht f) s) (n:=6) (p:=f) (row:=fun k=>[U.int (k : Int)]) (R:=fun s=>rL s) (fun s hs=>?_) fun i hi s hs=>?_
 ·rw [GI.SO]; rfl
 ·rw [GI.SO,qQa (by omega),Uj,FU hi,FZ (by omega),XR f hi,FV (by simp; omega) (by simp; omega)]; rfl
def Ww (f : Mk) (xs : LL) : Mk:=xs.foldl (fun f x=>up f (v0 x).toNat) f
theorem aar (l s : LL) (p now FY i : Int) (g : Mk) (f : Mk) : GI.l1 l s p now FY i 0 (Ht f) (HS g) = GI.l0 l s p now FY (Ft (i + 1)) (Ht (Ww f (HS g))):=by
 have hl:=Wk g
 have hm:=fun x=>Ub (f:=g) (x:=x)
 generalize HS g = xs at hl hm
 refine NW (l0:=fun (f : Mk) j=>GI.l1 l s p now FY i j (Ht f) xs) (R:=fun f=>GI.l0 l s p now FY (Ft (i + 1)) (Ht f)) (st:=fun f x=>up f (v0 x).toNat) (fun f=>?_) (fun j hj f=>?_) f
 ·rw [GI.IE,FO (qQb _)]; rfl
 ·obtain ⟨k,h1,h2,h3⟩:=(hm _).1 (FF hj (z:=[]))
  have e : gi xs (j : Int) 0 = (k : Int):=by unfold gi; rw [qQd,h3]; rfl
  rw [GI.IE,FN hj,FU hj,FZ (by omega),e,Uj,FU h1,qQd,XS f h1,h3]; rfl
theorem af7 (f g : Mk) (k : Nat) : Ww f (HS g) k = ((decide (k < 6) && g k) || f k):=by
 have key : ∀ (xs : LL) (f : Mk),Ww f xs k = (xs.any (fun x=>decide (k = (v0 x).toNat)) || f k):=by
  intro xs
  induction xs with
  | nil=>intro f; rfl
  | cons x xs ih =>
   intro f
   show Ww (up f (v0 x).toNat) xs k = _
   rw [ih,qYn]
   unfold up
   cases xs.any _ <;> cases decide (k = (v0 x).toNat) <;> rfl
 rw [key]
 congr 1
 rw [qXi,qXh]
 simp only [qQi,qQw]
 constructor
 ·rintro ⟨x,hx,h⟩
  obtain ⟨j,h1,h2,rfl⟩:=Ub.1 hx
  have : k = j:=h
  subst this; exact ⟨h1,h2⟩
 ·rintro ⟨h1,h2⟩
  exact ⟨_,Ub.2 ⟨k,h1,h2,rfl⟩,rfl⟩
theorem aeE (l s : LL) (hl : l.length ≤ 4611686018427387904) (hs : s.length ≤ 4611686018427387904) (p now FY : Int) : GI.c l s p now FY = rL (HS (XI l s p now FY)):=by
 rw [GI.eq,show List.replicate (Int.toNat 6) [U.bool false] = Ht fun _=>false from rfl]
 refine NW (l0:=fun (f : Mk) i=>GI.l0 l s p now FY i (Ht f)) (R:=fun f=>rL (HS f)) (st:=Uc l p now FY) (fun f=>?_) (fun i hi f=>?_) _
 ·rw [GI.Fx,FO (qQb _)]; exact aeD f
 ·rw [GI.Fx,FN hi,FU hi,FZ (by omega)]
  simp only [XV,aeM l hl,q0,qb,ql,Hv,qQh]
  unfold Uc PJ Qu
  simp only [gi,ui,qQd]
  cases decide (((s.getD i []).getD 0 U0).toInt = 1)
  ·rfl
  cases decide (((s.getD i []).getD 1 U0).toInt = p)
  ·rfl
  cases NY _ _ _ _ _ _ now FY
  ·rfl
  show GI.l1 l s p now FY i 0 (Ht f) (under l ((s.getD i []).getD 2 U0).toInt) = _
  unfold under
  cases within ((s.getD i []).getD 2 U0).toInt 0 5
  ·rw [qQ3,show ([] : LL) = HS fun _=>false from rfl,aar,FZ (by omega)]; rfl
  ·rw [qQh,aar,FZ (by omega)]
   congr 2
   funext k
   exact af7 ..
end Go.Proofs.YtaghmjcfaplkiaaGreat.Eng
/- half -/
