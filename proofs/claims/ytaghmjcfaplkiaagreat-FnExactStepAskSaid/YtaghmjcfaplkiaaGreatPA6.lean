/- Policies,decisions,points. -/
import Derived.Test.YtaghmjcfaplkiaaGreatPA5
namespace Go.Proofs.YtaghmjcfaplkiaaGreat.Eng
open Go.RowKit
set_option linter.unusedVariables false
set_option linter.unusedSimpArgs false
set_option linter.unusedSectionVars false
set_option maxRecDepth 100000
variable [Sm]
theorem YZ (hB : Pf) (l s : LL) (hl : l.length ≤ 4611686018427387904) (hs : s.length ≤ 1048576) (p d g ac ob now : Int) : ∀ (n : Nat) (o a b : Int) (xs : LL),IJ n o a b xs = true → HW.c o a b xs l s p d g ac ob now = rB (ND l s p d g now n o a b xs)
 | 0,o,a,b,xs,h=>by cases h
 | n + 1,o,a,b,xs,h=>by
  have h : (Nu o a b xs.length && xs.all fun x=>IJ n (ui x 0) (ui x 1) (ui x 2) (ul x 3)) = true:=h
  rw [qQi] at h
  obtain ⟨h1,h2⟩:=h
  have hn : (xs.length : Int) = arity o:=by
   unfold Nu at h1
   rw [qQi] at h1
   exact qZu h1.1
  have sub : ∀ i : Nat,i < xs.length → HW.c (gi xs i 0) (gi xs i 1) (gi xs i 2) (gl xs i 3) l s p d g ac ob now = rB (ND l s p d g now n (gi xs i 0) (gi xs i 1) (gi xs i 2) (gl xs i 3)):=fun i hi=>by
   have:=qQp.1 h2 _ (FF hi (z:=[]))
   exact YZ hB l s hl hs p d g ac ob now n _ _ _ _ this
  rw [HW.eq]
  by_cases h7 : o = 7
  ·subst h7
   have eK : xs.length = 1:=by have : arity 7 = 1:=rfl; omega
   have s0:=sub 0 (by omega)
   rw [eK]
   show ((HW.c (gi xs 0 0) (gi xs 0 1) (gi xs 0 2) (gl xs 0 3) l s p d g ac ob now).bind _) = _
   rw [show HW.c (gi xs 0 0) (gi xs 0 1) (gi xs 0 2) (gl xs 0 3) l s p d g ac ob now = _ from s0]; rfl
  by_cases h8 : o = 8
  ·subst h8
   have eK : xs.length = 2:=by have : arity 8 = 2:=rfl; omega
   have s0:=sub 0 (by omega)
   have s1:=sub 1 (by omega)
   rw [eK]
   show ((HW.c (gi xs 0 0) (gi xs 0 1) (gi xs 0 2) (gl xs 0 3) l s p d g ac ob now).bind fun r1=>bif r1.b 0 then ((HW.c (gi xs 1 0) (gi xs 1 1) (gi xs 1 2) (gl xs 1 3) l s p d g ac ob now).bind _) else _) = _
   rw [show HW.c (gi xs 0 0) (gi xs 0 1) (gi xs 0 2) (gl xs 0 3) l s p d g ac ob now = _ from s0,show HW.c (gi xs 1 0) (gi xs 1 1) (gi xs 1 2) (gl xs 1 3) l s p d g ac ob now = _ from s1]
   simp only [q0,qb,cB,GX]; rfl
  by_cases h9 : o = 9
  ·subst h9
   have eK : xs.length = 2:=by have : arity 9 = 2:=rfl; omega
   have s0:=sub 0 (by omega)
   have s1:=sub 1 (by omega)
   rw [eK]
   show ((HW.c (gi xs 0 0) (gi xs 0 1) (gi xs 0 2) (gl xs 0 3) l s p d g ac ob now).bind fun r1=>bif r1.b 0 then rB true else ((HW.c (gi xs 1 0) (gi xs 1 1) (gi xs 1 2) (gl xs 1 3) l s p d g ac ob now).bind _)) = _
   rw [show HW.c (gi xs 0 0) (gi xs 0 1) (gi xs 0 2) (gl xs 0 3) l s p d g ac ob now = _ from s0,show HW.c (gi xs 1 0) (gi xs 1 1) (gi xs 1 2) (gl xs 1 3) l s p d g ac ob now = _ from s1]
   simp only [q0,qb,cB,Yt]; rfl
  rw [qQm h7,qQm h8,qQm h9,VL.eq,ac1 hB l s hl hs]
  show rB _ = rB (bif decide (o = 7) then _ else bif decide (o = 8) then _ else bif decide (o = 9) then _ else _)
  rw [qQm h7,qQm h8,qQm h9]; rfl
noncomputable def NV (l s : LL) (p d g now o a b : Int) (xs : LL) : Bool:=NH o a b xs && ND l s p d g now (Fy xs + 1) o a b xs
theorem Zm {o a b : Int} {xs : LL} (h : NH o a b xs = true) : IJ (Fy xs + 1) o a b xs = true:=by
 unfold NH at h
 rw [qQi] at h
 exact h.2
theorem aei (l s : LL) (hl : l.length ≤ 4611686018427387904) (hs : s.length ≤ 4611686018427387904) (o a b : Int) (xs : LL) (hx : Fy xs ≤ 1099511627776) (p d g ac ob now : Int) : Up.c l s o a b xs p d g ac ob now = rB (NV l s p d g now o a b xs):=by
 rw [Up.eq,aac o a b xs hx]
 simp only [q0,qb]
 unfold NV
 cases h : NH o a b xs
 ·rfl
 ·rw [qQh,aah l s hl hs p d g ac ob now _ o a b xs (Zm h)]; rfl
theorem acQ (hB : Pf) (l s : LL) (hl : l.length ≤ 4611686018427387904) (hs : s.length ≤ 1048576) (o a b : Int) (xs : LL) (hx : Fy xs ≤ 1099511627776) (p d g ac ob now : Int) : Sp.c l s o a b xs p d g ac ob now = rB (NV l s p d g now o a b xs):=by
 rw [Sp.eq,YU o a b xs hx]
 simp only [q0,qb]
 unfold NV
 cases h : NH o a b xs
 ·rfl
 ·rw [qQh,YZ hB l s hl hs p d g ac ob now _ o a b xs (Zm h)]; rfl
def Wb (e a ob o x y : Int) (xs : LL) : Bool:=within e 0 1 && (within a (-1) 5 && (bif decide (ob = -1) then NH o x y xs else (Hw ob 4 && NH o x y xs)))
theorem aeF (e a ob o x y : Int) (xs : LL) (h : Fy xs ≤ 1099511627776) : Rs.c e a ob o x y xs = rB (Wb e a ob o x y xs):=by
 simp only [Rs.eq,Ij,PQ,aac o x y xs h,q0,qb,cB,GX]; rfl
theorem adh (e a ob o x y : Int) (xs : LL) (h : Fy xs ≤ 1099511627776) : QD.c e a ob o x y xs = rB (Wb e a ob o x y xs):=by
 simp only [QD.eq,HQ,Pm,YU o x y xs h,q0,qb,cB,GX]; rfl
def MR (x : List U) : Bool:=Wb (ui x 0) (ui x 1) (ui x 2) (ui x 3) (ui x 4) (ui x 5) (ul x 6)
def Nr (v : Int) (rs : LL) : Bool:=rs.all MR && (within v 0 999 && decide (ln rs ≤ 8))
theorem aap (v : Int) (rs : LL) (h : Fy rs ≤ 1099511627776) : LO.c v rs = rB (Nr v rs):=by
 have hl:=FP rs
 rw [LO.eq]
 refine (Oj (l0:=fun i=>LO.l0 i v rs) (n:=rs.length) (p:=fun i=>MR (rs.getD i [])) (b:=within v 0 999 && decide (ln rs ≤ 8)) ?_ fun i hi=>?_).trans (by rw [XH rs [] MR]; rfl)
 ·rw [LO.Fx,FO (qQb _)]
  simp only [Ij,q0,qb,cB,GX,qQ3]
 ·have:=sub_lt hi 6
  have hr:=aeF (ui (rs.getD i []) 0) (ui (rs.getD i []) 1) (ui (rs.getD i []) 2) (ui (rs.getD i []) 3) (ui (rs.getD i []) 4) (ui (rs.getD i []) 5) (ul (rs.getD i []) 6) (by omega)
  rw [LO.Fx,FN hi,FU hi,FZ (by omega)]
  show ((Rs.c (ui (rs.getD i []) 0) (ui (rs.getD i []) 1) (ui (rs.getD i []) 2) (ui (rs.getD i []) 3) (ui (rs.getD i []) 4) (ui (rs.getD i []) 5) (ul (rs.getD i []) 6)).bind _) = _
  rw [hr]
  show (bif !MR (rs.getD i []) then _ else _) = _
  cases MR (rs.getD i []) <;> rfl
theorem Ze (v : Int) (rs : LL) (h : Fy rs ≤ 1099511627776) : QC.c v rs = rB (Nr v rs):=by
 have hl:=FP rs
 have hf : Mp.c rs = rI (Gb rs fun x=>!MR x):=by
  rw [Mp.eq]
  refine La (l0:=fun i=>Mp.l0 rs _ i) (n:=rs.length) (p:=fun i=>!MR (rs.getD i [])) ?_ fun i hi=>?_
  ·rw [Mp.Fx,FO (qQb _)]; rfl
  ·have:=sub_lt hi 6
   have hr:=adh (ui (rs.getD i []) 0) (ui (rs.getD i []) 1) (ui (rs.getD i []) 2) (ui (rs.getD i []) 3) (ui (rs.getD i []) 4) (ui (rs.getD i []) 5) (ul (rs.getD i []) 6) (by omega)
   rw [Mp.Fx,FN hi,FU hi,FZ (by omega),VP.eq]
   show (((QD.c (ui (rs.getD i []) 0) (ui (rs.getD i []) 1) (ui (rs.getD i []) 2) (ui (rs.getD i []) 3) (ui (rs.getD i []) 4) (ui (rs.getD i []) 5) (ul (rs.getD i []) 6)).bind _).bind _) = _
   rw [hr]; rfl
 have e : decide (Gb rs (fun x=>!MR x) ≥ 0) = rs.any fun x=>!MR x:=Ql fun x=>!MR x
 simp only [QC.eq,HQ,Wp.eq,hf,q0,qb,qi,cB,GX]
 show rB (within v 0 999 && (decide (ln rs ≤ 8) && !decide (Gb rs (fun x=>!MR x) ≥ 0))) = _
 rw [e]
 unfold Nr
 rw [qYw]
 cases rs.any _ <;> cases within v 0 999 <;> cases decide (ln rs ≤ 8) <;> rfl
def Oa (a b act obj : Int) : Bool:=(decide (a = -1) || decide (a = act)) && (decide (b = -1) || decide (b = obj))
theorem ael (e a b o x y : Int) (xs : LL) (act obj : Int) : Ut.c e a b o x y xs act obj = rB (Oa a b act obj):=by
 rw [Ut.eq]; unfold Oa
 cases decide (a = -1) <;> cases decide (a = act) <;> cases decide (b = -1) <;> rfl
theorem acT (e a b o x y : Int) (xs : LL) (act obj : Int) : Sw.c e a b o x y xs act obj = rB (Oa a b act obj):=by
 rw [Sw.eq]; unfold Oa
 cases decide (a = -1) <;> cases decide (a = act) <;> cases decide (b = -1) <;> rfl
noncomputable def Uk (l s : LL) (p d g ac ob now : Int) (x : List U) : Bool:=Oa (ui x 1) (ui x 2) ac ob && NV l s p d g now (ui x 3) (ui x 4) (ui x 5) (ul x 6)
noncomputable def Pl (l s rs : LL) (p d g ac ob now : Int) : LL:=((List.range rs.length).filter fun i=>Uk l s p d g ac ob now (rs.getD i [])).map fun i : Nat=>[U.int (i : Int)]
theorem aem (l s rs : LL) (v : Int) (hl : l.length ≤ 4611686018427387904) (hs : s.length ≤ 4611686018427387904) (hr : Fy rs ≤ 1099511627776) (p d g ac ob now : Int) : Lq.c l s v rs p d g ac ob now = rL (Pl l s rs p d g ac ob now):=by
 have hlen:=FP rs
 rw [Lq.eq]
 refine Ph (l0:=fun i acc=>Lq.l0 l s i v rs p d g ac ob now acc) (n:=rs.length) (p:=fun i=>Uk l s p d g ac ob now (rs.getD i [])) (row:=fun i=>[U.int (i : Int)]) (R:=fun acc=>rL acc) (fun acc ha=>?_) fun i hi acc ha=>?_
 ·rw [Lq.Fx,FO (qQb _)]; rfl
 ·have:=sub_lt hi 6
  rw [Lq.Fx,FN hi,FU hi,FZ (by omega),aei l s hl hs _ _ _ _ (by show Fy (ul (rs.getD i []) 6) ≤ _; omega),ael,FV (by simp; omega) (by simp; omega)]
  show (bif Oa (ui (rs.getD i []) 1) (ui (rs.getD i []) 2) ac ob then (bif NV l s p d g now (ui (rs.getD i []) 3) (ui (rs.getD i []) 4) (ui (rs.getD i []) 5) (ul (rs.getD i []) 6) then _ else _) else _) = _
  unfold Uk
  cases Oa (ui (rs.getD i []) 1) (ui (rs.getD i []) 2) ac ob
  ·rfl
  cases NV l s p d g now (ui (rs.getD i []) 3) (ui (rs.getD i []) 4) (ui (rs.getD i []) 5) (ul (rs.getD i []) 6) <;> rfl
theorem acV (hB : Pf) (l s rs : LL) (v : Int) (hl : l.length ≤ 4611686018427387904) (hs : s.length ≤ 1048576) (hr : Fy rs ≤ 1099511627776) (p d g ac ob now : Int) : Lj.c l s v rs p d g ac ob now = rL (Pl l s rs p d g ac ob now):=by
 have hlen:=FP rs
 rw [Lj.eq]
 refine Ph (l0:=fun i acc=>Lj.l0 l s rs _ i p d g ac ob now acc) (n:=rs.length) (p:=fun i=>Uk l s p d g ac ob now (rs.getD i [])) (row:=fun i=>[U.int (i : Int)]) (R:=fun acc=>rL acc) (fun acc ha=>?_) fun i hi acc ha=>?_
 ·rw [Lj.Fx,FO (qQb _)]; rfl
 ·have:=sub_lt hi 6
  rw [Lj.Fx,FN hi,FU hi,FZ (by omega),acQ hB l s hl hs _ _ _ _ (by show Fy (ul (rs.getD i []) 6) ≤ _; omega),acT,FV (by simp; omega) (by simp; omega)]
  show (bif Oa (ui (rs.getD i []) 1) (ui (rs.getD i []) 2) ac ob then (bif NV l s p d g now (ui (rs.getD i []) 3) (ui (rs.getD i []) 4) (ui (rs.getD i []) 5) (ul (rs.getD i []) 6) then _ else _) else _) = _
  unfold Uk
  cases Oa (ui (rs.getD i []) 1) (ui (rs.getD i []) 2) ac ob
  ·rfl
  cases NV l s p d g now (ui (rs.getD i []) 3) (ui (rs.getD i []) 4) (ui (rs.getD i []) 5) (ul (rs.getD i []) 6) <;> rfl
end Go.Proofs.YtaghmjcfaplkiaaGreat.Eng
/- half -/
