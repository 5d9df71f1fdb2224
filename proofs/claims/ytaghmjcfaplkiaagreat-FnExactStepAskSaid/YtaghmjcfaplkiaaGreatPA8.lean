/- Decisions,saved decisions,copies,and what a point answers. -/
import Derived.Test.YtaghmjcfaplkiaaGreatPA7
namespace Go.Proofs.YtaghmjcfaplkiaaGreat.Eng
open Go.RowKit
set_option linter.unusedVariables false
set_option linter.unusedSimpArgs false
set_option linter.unusedSectionVars false
set_option maxRecDepth 100000
variable [Sm]
/-- A decision by the rules that hold. -/
def Vp (rs idx : LL) : Int:=bif idx.any (fun x=>decide (gi rs (v0 x) 0 = 0)) then 0 else bif idx.isEmpty then 0 else 1
theorem adB (xs : LL) : decide (ln xs = 0) = xs.isEmpty:=by cases xs <;> simp [ln]; omega
theorem aeh (v : Int) (rs idx : LL) (dw : idx.length ≤ 4611686018427387904) (h : ∀ x ∈ idx,dE (v0 x) rs.length = true) : Kh.l0 0 v rs idx = rI (Vp rs idx):=by
 refine (Ym (l0:=fun i=>Kh.l0 i v rs idx) (n:=idx.length) (p:=fun i=>decide (gi rs (v0 (idx.getD i [])) 0 = 0)) (F:=rI 0) (R:=rI (bif idx.isEmpty then 0 else 1)) ?_ fun i hi=>?_).trans ?_
 ·rw [Kh.Fx,FO (qQb _),adB]
  cases idx.isEmpty <;> rfl
 ·have e : gi idx (i : Int) 0 = v0 (idx.getD i []):=rfl
  rw [Kh.Fx,FN hi,FU hi,FZ (by omega),e,h _ (FF hi)]; rfl
 ·rw [Ri idx [] fun x=>decide (gi rs (v0 x) 0 = 0),cI]; rfl
theorem acP (v : Int) (rs idx : LL) (dw : idx.length ≤ 4611686018427387904) (h : ∀ x ∈ idx,dE (v0 x) rs.length = true ∧ (gi rs (v0 x) 0 = 0 ∨ gi rs (v0 x) 0 = 1)) : LF.c v rs idx = rI (Vp rs idx):=by
 have key : ∀ i,i ≤ idx.length → ∀ out : Int,LF.l0 out idx (ln idx) (i : Int) v rs = rI (bif (idx.drop i).any (fun x=>decide (gi rs (v0 x) 0 = 0)) then 0 else bif (idx.drop i).isEmpty then out else 1):=by
  refine down idx.length ?_ ?_
  ·intro out
   rw [LF.Fx,FO (qQb _),qYz]; rfl
  ·intro i hi ih out
   have e : gi idx (i : Int) 0 = v0 (idx.getD i []):=rfl
   obtain ⟨h1,h2⟩:=h _ (FF hi)
   rw [LF.Fx,FN hi,FU hi,FZ (by omega),e,h1,Qs hi,qYn,Hv,Hv,qQh]
   rcases h2 with h2 | h2
   ·rw [h2]; rfl
   ·rw [h2,ih]
    show rI _ = rI _
    rw [show decide ((1 : Int) = 0) = false from rfl,Bool.false_or]
    congr 1
    cases (idx.drop (i + 1)).any _
    ·cases (idx.drop (i + 1)).isEmpty <;> rfl
    ·rfl
 rw [LF.eq]
 exact key 0 (qQt _) 0
noncomputable def HU (l s : LL) (v : Int) (rs : LL) (p d g ac ob now : Int) : Int:=bif HR p d g ac ob now then (bif Nr v rs then Vp rs (Pl l s rs p d g ac ob now) else 0) else 0
theorem YP (l s rs : LL) (p d g ac ob now : Int) : (Pl l s rs p d g ac ob now).length ≤ rs.length:=by
 unfold Pl
 rw [qQk]; exact qZd (qYv _ _) (by simp)
theorem YQ {l s rs : LL} {p d g ac ob now : Int} {x : List U} (h : x ∈ Pl l s rs p d g ac ob now) : ∃ i : Nat,i < rs.length ∧ v0 x = (i : Int):=by
 unfold Pl at h
 simp only [qQo,qZa,qZt] at h
 obtain ⟨i,⟨h1,_⟩,rfl⟩:=h
 exact ⟨i,h1,rfl⟩
theorem XT (l s : LL) (v : Int) (rs : LL) (hl : l.length ≤ 4611686018427387904) (hs : s.length ≤ 4611686018427387904) (hr : Fy rs ≤ 1099511627776) (p d g ac ob now : Int) : Kh.c l s v rs p d g ac ob now = rI (HU l s v rs p d g ac ob now):=by
 have hlen:=FP rs
 have hh:=YP l s rs p d g ac ob now
 rw [Kh.eq,XW,aap v rs hr,aem l s rs v hl hs hr]
 simp only [q0,qb,ql,Nb]
 rw [aeh v rs _ (by omega) fun x hx=>by obtain ⟨i,h1,h2⟩:=YQ hx; rw [h2]; exact FU h1]
 simp only [cI]; rfl
theorem Xa (l s : LL) (v : Int) (rs : LL) (hl : l.length ≤ 4611686018427387904) (hs : s.length ≤ 1048576) (hr : Fy rs ≤ 1099511627776) (p d g ac ob now : Int) : Ov.c l s v rs p d g ac ob now = rI (HU l s v rs p d g ac ob now):=by
 have hlen:=FP rs
 have hh:=YP l s rs p d g ac ob now
 rw [Ov.eq,Xd,Ze v rs hr,acV aa0 l s rs v hl hs hr]
 unfold HU
 simp only [q0,qb,ql,Nb]
 cases HR p d g ac ob now
 ·rfl
 cases hp : Nr v rs
 ·rfl
 rw [qQh,qQh,acP v rs _ (by omega) fun x hx=>?_]
 ·rfl
 ·obtain ⟨i,h1,h2⟩:=YQ hx
  rw [h2]
  refine ⟨FU h1,?_⟩
  unfold Nr at hp
  rw [qQi] at hp
  have:=qQp.1 hp.1 _ (FF h1 (z:=[]))
  unfold MR Wb at this
  rw [qQi] at this
  have:=Gx this.1
  show ui (rs.getD i []) 0 = 0 ∨ ui (rs.getD i []) 0 = 1
  omega
/-- How long a decision stays. -/
def stays (dec : Int → Int) (IB lim : Int) : Nat → Int → Int
 | 0,t=>t
 | k + 1,t=>bif decide (t < lim) then (bif decide (dec (t + 1) = IB) then stays dec IB lim k (t + 1) else t) else t
noncomputable def MW (l s : LL) (v : Int) (rs : LL) (p d g ac ob now GK : Int) : Int:=bif HR p d g ac ob now then (bif Nr v rs then (bif within GK 0 60 then
 stays (fun t=>HU l s v rs p d g ac ob t) (HU l s v rs p d g ac ob now) (min (now + GK) 10000) 61 now else now) else now) else now
theorem aat (l s : LL) (v : Int) (rs : LL) (hl : l.length ≤ 4611686018427387904) (hs : s.length ≤ 4611686018427387904) (hr : Fy rs ≤ 1099511627776) (p d g ac ob now GK IB : Int) (hn : within now 0 10000 = true) (hm : within GK 0 60 = true) :
  ∀ (k : Nat) (t : Int),now ≤ t → min (now + GK) 10000 < t + (k : Int) → LN.l0 l s GK IB t v rs p d g ac ob now = rI (stays (fun t=>HU l s v rs p d g ac ob t) IB (min (now + GK) 10000) k t)
 | 0,t,h0,h=>by
  obtain ⟨h1,h2⟩:=Gx hn
  obtain ⟨h3,h4⟩:=Gx hm
  rw [LN.Fx,Jg (n:=now + GK) (by omega) (by omega)]
  by_cases hc : t < now + GK
  ·rw [qQa hc,qQm (show ¬ t < 10000 by omega)]; rfl
  ·rw [qQm hc]; rfl
 | k + 1,t,h0,h=>by
  obtain ⟨h1,h2⟩:=Gx hn
  obtain ⟨h3,h4⟩:=Gx hm
  rw [LN.Fx,Jg (n:=now + GK) (by omega) (by omega)]
  unfold stays
  by_cases hc : t < now + GK
  ·by_cases hd : t < 10000
   ·rw [qQa hc,qQa hd,qQa (show t < min (now + GK) 10000 by omega),Jg (n:=t + 1) (by omega) (by omega),PV.eq]
    show ((Kh.c l s v rs p d g ac ob (t + 1)).bind _) = _
    rw [XT l s v rs hl hs hr]
    show (bif decide (HU l s v rs p d g ac ob (t + 1) = IB) then LN.l0 l s GK IB (t + 1) v rs p d g ac ob now else rI t) = _
    rw [aat l s v rs hl hs hr p d g ac ob now GK IB hn hm k (t + 1) (by omega) (by omega),cI]; rfl
   ·rw [qQa hc,qQm hd,qQm (show ¬ t < min (now + GK) 10000 by omega)]; rfl
  ·rw [qQm hc,qQm (show ¬ t < min (now + GK) 10000 by omega)]; rfl
theorem Zi (l s : LL) (v : Int) (rs : LL) (hl : l.length ≤ 4611686018427387904) (hs : s.length ≤ 1048576) (hr : Fy rs ≤ 1099511627776) (p d g ac ob now GK IB : Int) (hn : within now 0 10000 = true) (hm : within GK 0 60 = true) :
  ∀ (k : Nat) (t : Int),now ≤ t → min (now + GK) 10000 < t + (k : Int) → LC.l0 l s GK t IB v rs p d g ac ob now = rI (stays (fun t=>HU l s v rs p d g ac ob t) IB (min (now + GK) 10000) k t)
 | 0,t,h0,h=>by
  obtain ⟨h1,h2⟩:=Gx hn
  obtain ⟨h3,h4⟩:=Gx hm
  rw [LC.Fx,Jg (n:=now + GK) (by omega) (by omega),Xq,qQm (show ¬ t < min (now + GK) 10000 by omega)]; rfl
 | k + 1,t,h0,h=>by
  obtain ⟨h1,h2⟩:=Gx hn
  obtain ⟨h3,h4⟩:=Gx hm
  rw [LC.Fx,Jg (n:=now + GK) (by omega) (by omega),Xq]
  unfold stays
  by_cases hc : t < min (now + GK) 10000
  ·rw [qQa hc,Jg (n:=t + 1) (by omega) (by omega),Ou.eq]
   show ((Ov.c l s v rs p d g ac ob (t + 1)).bind _) = _
   rw [Xa l s v rs hl hs hr]
   show (bif decide (HU l s v rs p d g ac ob (t + 1) = IB) then LC.l0 l s GK (t + 1) IB v rs p d g ac ob now else rI t) = _
   rw [Zi l s v rs hl hs hr p d g ac ob now GK IB hn hm k (t + 1) (by omega) (by omega),cI]; rfl
  ·rw [qQm hc]; rfl
theorem Wj {p d g ac ob now : Int} (h : HR p d g ac ob now = true) : within now 0 10000 = true:=by
 unfold HR at h
 simp only [qQi] at h
 exact h.2.2.2.2.2
theorem aeO (l s : LL) (v : Int) (rs : LL) (hl : l.length ≤ 4611686018427387904) (hs : s.length ≤ 4611686018427387904) (hr : Fy rs ≤ 1099511627776) (p d g ac ob now GK : Int) : LN.c l s v rs p d g ac ob now GK = rI (MW l s v rs p d g ac ob now GK):=by
 rw [LN.eq,XW,aap v rs hr,Ij,XT l s v rs hl hs hr]
 unfold MW
 simp only [q0,qb,qi,Nb]
 cases hq : HR p d g ac ob now
 ·rfl
 cases Nr v rs
 ·rfl
 cases hm : within GK 0 60
 ·rfl
 have h1:=Gx (Wj hq)
 have h2:=Gx hm
 exact aat l s v rs hl hs hr p d g ac ob now GK _ (Wj hq) hm 61 now (qZx _) (by omega)
theorem adr (l s : LL) (v : Int) (rs : LL) (hl : l.length ≤ 4611686018427387904) (hs : s.length ≤ 1048576) (hr : Fy rs ≤ 1099511627776) (p d g ac ob now GK : Int) : LC.c l s v rs p d g ac ob now GK = rI (MW l s v rs p d g ac ob now GK):=by
 rw [LC.eq,Xd,Ze v rs hr,HQ,Xa l s v rs hl hs hr]
 unfold MW
 simp only [q0,qb,qi,Nb]
 cases hq : HR p d g ac ob now
 ·rfl
 cases Nr v rs
 ·rfl
 cases hm : within GK 0 60
 ·rfl
 have h1:=Gx (Wj hq)
 have h2:=Gx hm
 exact Zi l s v rs hl hs hr p d g ac ob now GK _ (Wj hq) hm 61 now (qZx _) (by omega)
/-! ### Saved decisions -/
def Uh (x : List U) : List U:=[U.int (ui x 0),U.int (ui x 1),U.int (ui x 2),U.int (ui x 3),U.int (ui x 4),U.int (ui x 5),U.int (ui x 6),U.int (ui x 7)]
def other (p d g a o : Int) (x : List U) : Bool:=!Rm (ui x 0) (ui x 1) (ui x 2) (ui x 3) (ui x 4) p d g a o
def Qr (xs : LL) : LL:=bif decide (ln xs > 8) then xs.drop 1 else xs
def QR (xs : LL) (p d g a o n c u : Int) : LL:=Qr ((xs.filter (other p d g a o)).map Uh ++ [[U.int p,U.int d,U.int g,U.int a,U.int o,U.int n,U.int c,U.int u]])
theorem Yz (xs : LL) : (bif decide (ln xs > 8) then EK (decide ((0 : Int) ≤ 1 ∧ (1 : Int) ≤ ln xs ∧ ln xs ≤ ln xs)) (rL (List.take (ln xs - 1).toNat (List.drop (Int.toNat 1) xs))) else rL xs) = rL (Qr xs):=by
 unfold Qr
 have hl : ln xs = (xs.length : Int):=rfl
 by_cases h : ln xs > 8
 ·rw [qQa h,qQa ⟨by omega,by omega,qZx _⟩]
  show rL (List.take (ln xs - 1).toNat (xs.drop 1)) = rL (xs.drop 1)
  rw [qXf (by rw [qZl]; omega)]
 ·rw [qQm h]; rfl
theorem aey (xs : LL) (hx : xs.length ≤ 1099511627776) (p d g a o n c u : Int) : Lp.c xs p d g a o n c u = rL (QR xs p d g a o n c u):=by
 rw [Lp.eq]
 refine WY (l0:=fun i acc=>Lp.l0 xs i p d g a o n c u acc) (xs:=xs) (q:=other p d g a o) (f:=Uh) (R:=fun acc=>rL (Qr (acc ++ [[U.int p,U.int d,U.int g,U.int a,U.int o,U.int n,U.int c,U.int u]]))) (fun acc ha=>?_) fun i hi acc ha=>?_
 ·rw [Lp.Fx,FO (qQb _),qQ3,FV (by simp; omega) (by simp; omega),Hv]
  exact Yz _
 ·rw [Lp.Fx,FN hi,FU hi,FZ (by omega),aas,FV (by simp; omega) (by simp; omega)]; rfl
theorem ada (xs : LL) (hx : xs.length ≤ 1099511627776) (p d g a o n c u : Int) : Li.c xs p d g a o n c u = rL (QR xs p d g a o n c u):=by
 rw [Li.eq]
 refine WY (l0:=fun i acc=>Li.l0 xs _ i p d g a o n c u acc) (xs:=xs) (q:=other p d g a o) (f:=Uh) (R:=fun acc=>rL (Qr (acc ++ [[U.int p,U.int d,U.int g,U.int a,U.int o,U.int n,U.int c,U.int u]]))) (fun acc ha=>?_) fun i hi acc ha=>?_
 ·rw [Li.Fx,FO (qQb _),qQ3,FV (by simp; omega) (by simp; omega),Hv]
  exact Yz _
 ·rw [Li.Fx,FN hi,FU hi,FZ (by omega),Zg,FV (by simp; omega) (by simp; omega)]; rfl
/-! ### Copies -/
def ML : Nat → LL → LL
 | 0,_=>[]
 | n + 1,xs=>xs.map fun x=>[U.int (ui x 0),U.int (ui x 1),U.int (ui x 2),U.lst (ML n (ul x 3))]
theorem aad : ∀ (n : Nat) (o a b : Int) (xs : LL),Fy xs < n → n ≤ 1099511627777 → KW.c o a b xs = some ⟨[[.int o,.int a,.int b,.lst (ML n xs)]],[]⟩
 | 0,o,a,b,xs,h,_=>by omega
 | n + 1,o,a,b,xs,h,hn=>by
  have hl:=FP xs
  rw [KW.eq]
  refine Lx (l0:=fun i acc=>KW.l0 i o a b xs 0 0 0 o a b acc) (xs:=xs) (f:=fun x=>[U.int (ui x 0),U.int (ui x 1),U.int (ui x 2),U.lst (ML n (ul x 3))]) (R:=fun acc=>some ⟨[[.int o,.int a,.int b,.lst acc]],[]⟩) (fun acc ha=>?_) fun i hi acc ha=>?_
  ·rw [KW.Fx,FO (qQb _)]; rfl
  ·have:=sub_lt hi 3
   have hs:=aad n (ui (xs.getD i []) 0) (ui (xs.getD i []) 1) (ui (xs.getD i []) 2) (ul (xs.getD i []) 3) (by omega) (by omega)
   rw [KW.Fx,FN hi,FU hi,FZ (by omega)]
   show ((KW.c (ui (xs.getD i []) 0) (ui (xs.getD i []) 1) (ui (xs.getD i []) 2) (ul (xs.getD i []) 3)).bind _) = _
   rw [hs]
   show EK (room (acc.length + 1) 48) _ = _
   rw [FV (by omega) (by omega)]; rfl
theorem YV : ∀ (n : Nat) (o a b : Int) (xs : LL),Fy xs < n → n ≤ 1099511627777 → Ko.c o a b xs = some ⟨[[.int o,.int a,.int b,.lst (ML n xs)]],[]⟩
 | 0,o,a,b,xs,h,_=>by omega
 | n + 1,o,a,b,xs,h,hn=>by
  have hl:=FP xs
  rw [Ko.eq]
  refine Lx (l0:=fun i acc=>Ko.l0 xs _ i 0 0 0 o a b acc) (xs:=xs) (f:=fun x=>[U.int (ui x 0),U.int (ui x 1),U.int (ui x 2),U.lst (ML n (ul x 3))]) (R:=fun acc=>some ⟨[[.int o,.int a,.int b,.lst acc]],[]⟩) (fun acc ha=>?_) fun i hi acc ha=>?_
  ·rw [Ko.Fx,FO (qQb _)]; rfl
  ·have:=sub_lt hi 3
   have hs:=YV n (ui (xs.getD i []) 0) (ui (xs.getD i []) 1) (ui (xs.getD i []) 2) (ul (xs.getD i []) 3) (by omega) (by omega)
   rw [Ko.Fx,FN hi,FU hi,FZ (by omega)]
   show ((Ko.c (ui (xs.getD i []) 0) (ui (xs.getD i []) 1) (ui (xs.getD i []) 2) (ul (xs.getD i []) 3)).bind _) = _
   rw [hs]
   show EK (room (acc.length + 1) 48) _ = _
   rw [FV (by omega) (by omega)]; rfl
def GW (xs : LL) : LL:=xs.map fun x=>[U.int (ui x 0),U.int (ui x 1),U.int (ui x 2),U.int (ui x 3),U.int (ui x 4),U.int (ui x 5),U.lst (ML (Fy xs) (ul x 6))]
theorem aed (v : Int) (xs : LL) (h : Fy xs ≤ 1099511627776) : Mz.c v xs = some ⟨[[.int v,.lst (GW xs)]],[]⟩:=by
 have hl:=FP xs
 rw [Mz.eq]
 refine Lx (l0:=fun i acc=>Mz.l0 i v xs 0 v acc) (xs:=xs) (f:=fun x=>[U.int (ui x 0),U.int (ui x 1),U.int (ui x 2),U.int (ui x 3),U.int (ui x 4),U.int (ui x 5),U.lst (ML (Fy xs) (ul x 6))]) (R:=fun acc=>some ⟨[[.int v,.lst acc]],[]⟩) (fun acc ha=>?_) fun i hi acc ha=>?_
 ·rw [Mz.Fx,FO (qQb _)]; rfl
 ·have:=sub_lt hi 6
  have hs:=aad (Fy xs) (ui (xs.getD i []) 3) (ui (xs.getD i []) 4) (ui (xs.getD i []) 5) (ul (xs.getD i []) 6) this (by omega)
  rw [Mz.Fx,FN hi,FU hi,FZ (by omega)]
  show ((KW.c (ui (xs.getD i []) 3) (ui (xs.getD i []) 4) (ui (xs.getD i []) 5) (ul (xs.getD i []) 6)).bind _) = _
  rw [hs]
  show EK (room (acc.length + 1) 72) _ = _
  rw [FV (by omega) (by omega)]; rfl
theorem acK (v : Int) (xs : LL) (h : Fy xs ≤ 1099511627776) : SK.c v xs = some ⟨[[.int v,.lst (GW xs)]],[]⟩:=by
 have hl:=FP xs
 have : Md.c xs = rL (GW xs):=by
  rw [Md.eq]
  refine Lx (l0:=fun i acc=>Md.l0 xs _ i acc) (xs:=xs) (f:=fun x=>[U.int (ui x 0),U.int (ui x 1),U.int (ui x 2),U.int (ui x 3),U.int (ui x 4),U.int (ui x 5),U.lst (ML (Fy xs) (ul x 6))]) (R:=fun acc=>rL acc) (fun acc ha=>?_) fun i hi acc ha=>?_
  ·rw [Md.Fx,FO (qQb _)]; rfl
  ·have:=sub_lt hi 6
   have hs:=YV (Fy xs) (ui (xs.getD i []) 3) (ui (xs.getD i []) 4) (ui (xs.getD i []) 5) (ul (xs.getD i []) 6) this (by omega)
   rw [Md.Fx,FN hi,FU hi,FZ (by omega)]
   show ((Ko.c (ui (xs.getD i []) 3) (ui (xs.getD i []) 4) (ui (xs.getD i []) 5) (ul (xs.getD i []) 6)).bind _) = _
   rw [hs]
   show EK (room (acc.length + 1) 72) _ = _
   rw [FV (by omega) (by omega)]; rfl
 rw [SK.eq,this]; rfl
theorem aae (n a : Int) (ps : LL) (v : Int) (rs : LL) (hp : ps.length ≤ 1099511627776) (hr : Fy rs ≤ 1099511627776) : Ry.c n a ps v rs = some ⟨[[.int n,.int a,.lst ps,.int v,.lst (GW rs)]],[]⟩:=by
 rw [Ry.eq,FV (by omega) (by omega),aed v rs hr]; rfl
theorem YW (n a : Int) (ps : LL) (v : Int) (rs : LL) (hp : ps.length ≤ 1099511627776) (hr : Fy rs ≤ 1099511627776) : QJ.c n a ps v rs = some ⟨[[.int n,.int a,.lst ps,.int v,.lst (GW rs)]],[]⟩:=by
 rw [QJ.eq,FV (by omega) (by omega),acK v rs hr]; rfl
theorem aaf (s : LL) (h : s.length ≤ 1099511627776) : RB.c s = rL s:=by rw [RB.eq,FV (by omega) (by omega)]; rfl
theorem YX (s : LL) (h : s.length ≤ 1099511627776) : QK.c s = rL s:=by rw [QK.eq,FV (by omega) (by omega)]; rfl
theorem aag (i n a : Int) (ps : LL) (v : Int) (rs s rv : LL) (sy : Int) (sv : LL) (hp : ps.length ≤ 1099511627776) (hr : Fy rs ≤ 1099511627776) (hs : s.length ≤ 1099511627776) (hv : rv.length ≤ 1099511627776) (hw : sv.length ≤ 1099511627776) :
  Rz.c i n a ps v rs s rv sy sv = some ⟨[[.int i,.int n,.int a,.lst ps,.int v,.lst (GW rs),.lst s,.lst rv,.int sy,.lst sv]],[]⟩:=by
 rw [Rz.eq,aae n a ps v rs hp hr,aaf s hs,FV (by omega) (by omega),FV (by omega) (by omega)]; rfl
theorem YY (i n a : Int) (ps : LL) (v : Int) (rs s rv : LL) (sy : Int) (sv : LL) (hp : ps.length ≤ 1099511627776) (hr : Fy rs ≤ 1099511627776) (hs : s.length ≤ 1099511627776) (hv : rv.length ≤ 1099511627776) (hw : sv.length ≤ 1099511627776) :
  QL.c i n a ps v rs s rv sy sv = some ⟨[[.int i,.int n,.int a,.lst ps,.int v,.lst (GW rs),.lst s,.lst rv,.int sy,.lst sv]],[]⟩:=by
 rw [QL.eq,YW n a ps v rs hp hr,YX s hs,FV (by omega) (by omega),FV (by omega) (by omega)]; rfl
end Go.Proofs.YtaghmjcfaplkiaaGreat.Eng
/- half -/
