/- How many elements data have; marks on data; loops over them. Of no program. -/
import Derived.Test.YtaghmjcfaplkiaaGreatPL
namespace Go.Proofs.YtaghmjcfaplkiaaGreat.Eng
open Go.RowKit
set_option linter.unusedVariables false

theorem FF {α : Type} {l : List α} {i : Nat} {z : α} (h : i < l.length) : l.getD i z ∈ l:=by
 rw [qQe,qQg h]; exact List.getElem_mem h
mutual
/-- How many elements. -/
def FX : U → Nat
 | .lst xs=>Fy xs
 | _=>0
def FQ : List U → Nat
 | []=>0
 | u :: us=>FX u + FQ us
def Fy : List (List U) → Nat
 | []=>0
 | x :: xs=>1 + FQ x + Fy xs
end
mutual
/-- How many marks. -/
def nU : U → Nat
 | .lst xs=>Fw xs
 | _=>1
def nR : List U → Nat
 | []=>0
 | u :: us=>nU u + nR us
def Fw : List (List U) → Nat
 | []=>0
 | x :: xs=>nR x + Fw xs
end
mutual
/-- Data,marked from k on; 'tx': how texts are marked. -/
def Ua (tx : Int → ByteArray) : U → Int → U
 | .int _,k=>.int k
 | .bool _,k=>.bool (decide (k.tmod 3 = 0))
 | .str _,k=>.str (tx k)
 | .lst xs,k=>.lst (FH tx xs k)
def HF (tx : Int → ByteArray) : List U → Int → List U
 | [],_=>[]
 | u :: us,k=>Ua tx u k :: HF tx us (k + (nU u : Int))
def FH (tx : Int → ByteArray) : List (List U) → Int → List (List U)
 | [],_=>[]
 | x :: xs,k=>HF tx x k :: FH tx xs (k + (nR x : Int))
end
theorem adH (tx : Int → ByteArray) : ∀ (x : List U) (k : Int),(HF tx x k).length = x.length
 | [],k=>by simp [HF]
 | u :: us,k=>by simp [HF,adH tx us]
theorem Ig (tx : Int → ByteArray) : ∀ (xs : List (List U)) (k : Int),(FH tx xs k).length = xs.length
 | [],k=>by simp [FH]
 | x :: xs,k=>by simp [FH,Ig tx xs]
theorem FP : ∀ (xs : List (List U)),xs.length ≤ Fy xs
 | []=>by simp [Fy]
 | x :: xs=>by have:=FP xs; simp only [Fy,qZq]; omega
theorem abl : ∀ (xs : List (List U)) (i : Nat),i < xs.length → Fy (xs.drop i) = 1 + FQ (xs.getD i []) + Fy (xs.drop (i + 1))
 | [],i,h=>by simp at h
 | x :: xs,0,h=>by simp [Fy]
 | x :: xs,i + 1,h=>by
  have:=abl xs i (by simpa using h)
  simpa using this
theorem Gc : ∀ {xs : List (List U)} {x : List U},x ∈ xs → FQ x < Fy xs
 | y :: ys,x,h=>by
  simp only [Fy]
  rcases qQn.1 h with rfl | h
  ·omega
  ·have:=Gc h; omega
theorem adJ : ∀ (xs : List (List U)) (i : Nat),i < xs.length → Fw (xs.drop i) = nR (xs.getD i []) + Fw (xs.drop (i + 1))
 | [],i,h=>by simp at h
 | x :: xs,0,h=>by simp [Fw]
 | x :: xs,i + 1,h=>by
  have:=adJ xs i (by simpa using h)
  simpa using this
theorem Ih : ∀ {xs : List (List U)} {x : List U},x ∈ xs → nR x ≤ Fw xs
 | y :: ys,x,h=>by
  simp only [Fw]
  rcases qQn.1 h with rfl | h
  ·omega
  ·have:=Ih h; omega
/-- What a law's measure of its arguments leaves. -/
def Gd (n : Nat) (left : Int) : Int:=if (n : Int) ≤ left then left - (n : Int) else -1
theorem adI (tx : Int → ByteArray) : ∀ (xs : List (List U)) (k : Int) (i : Nat),i < xs.length → ∃ k',k ≤ k' ∧ k' + (Fw (xs.drop i) : Int) = k + (Fw xs : Int) ∧ (FH tx xs k).drop i = FH tx (xs.drop i) k'
 | [],k,i,h=>by simp at h
 | x :: xs,k,0,h=>⟨k,qZx _,by simp,by simp⟩
 | x :: xs,k,i + 1,h=>by
  obtain ⟨k',h1,h2,h3⟩:=adI tx xs (k + (nR x : Int)) i (by simpa using h)
  refine ⟨k',by omega,?_,by simpa [FH] using h3⟩
  simp only [List.drop_succ_cons,Fw]
  omega
/-- A loop that marks. -/
theorem Iw (tx : Int → ByteArray) {l0 : Int → Int → List (List U) → Option aJ} {xs : List (List U)} (GY : ∀ k s,s.length = xs.length → l0 k (xs.length : Int) s = some ⟨[[.int k]],[s]⟩)
  (iH : ∀ i,i < xs.length → ∀ (k : Int) (s : List (List U)),s.length = xs.length → s.getD i [] = xs.getD i [] → 0 ≤ k → k + (nR (xs.getD i []) : Int) ≤ 4611686018427387904 → l0 k (i : Int) s = l0 (k + (nR (xs.getD i []) : Int)) ((i + 1 : Nat) : Int) (s.set i (HF tx (xs.getD i []) k))) :
  ∀ {k : Int},0 ≤ k → k + (Fw xs : Int) ≤ 4611686018427387904 → l0 k 0 xs = some ⟨[[.int (k + (Fw xs : Int))]],[FH tx xs k]⟩:=by
 have key : ∀ (ys pre : List (List U)) (k : Int) (i : Nat),i + ys.length = xs.length → pre.length = i → ys = xs.drop i → 0 ≤ k → k + (Fw ys : Int) ≤ 4611686018427387904 → l0 k (i : Int) (pre ++ ys) = some ⟨[[.int (k + (Fw ys : Int))]],[pre ++ FH tx ys k]⟩:=by
  intro ys
  induction ys with
  | nil =>
   intro pre k i h1 h2 h3 h4 h5
   have hi : i = xs.length:=by simpa using h1
   subst hi
   rw [GY k (pre ++ []) (by simp [h2])]
   simp [Fw,FH]
  | cons y ys ih =>
   intro pre k i h1 h2 h3 h4 h5
   simp only [qZq] at h1
   simp only [Fw] at h5 ⊢
   have hi : i < xs.length:=by omega
   have hy : xs.getD i [] = y:=by
    rw [qQe]
    have : xs[i]? = (xs.drop i)[0]?:=by rw [qZb]; rfl
    rw [this,← h3]; rfl
   have hs:=iH i hi k (pre ++ y :: ys) (by simp; omega) (by rw [hy,qQe,qQx (by omega),h2,qZn]; rfl) h4 (by rw [hy]; omega)
   rw [hy] at hs
   have e1 : (pre ++ y :: ys).set i (HF tx y k) = (pre ++ [HF tx y k]) ++ ys:=by
    rw [List.set_append_right _ _ (by omega),h2,qZn,qZ4]; rfl
   rw [e1] at hs
   have q:=ih (pre ++ [HF tx y k]) (k + (nR y : Int)) (i + 1) (by omega) (by simp [h2]) (by rw [← List.tail_drop,← h3]; rfl) (by omega) (by omega)
   rw [hs,q,FH]
   simp [Int.add_assoc]
 intro k h1 h2
 have:=key xs [] k 0 (by simp) rfl rfl h1 h2
 simpa using this
/-- A loop that reads marks back. -/
theorem Is (tx : Int → ByteArray) {l0 : Int → Int → Option aJ} {xs : List (List U)} {m : Int} (hm : 0 ≤ m) (hb : m + (Fw xs : Int) ≤ 4611686018427387904) (GY : ∀ k,l0 k (xs.length : Int) = some ⟨[[.int k]],[]⟩)
  (iH : ∀ i,i < xs.length → ∀ (k : Int),(FH tx xs m).getD i [] = HF tx (xs.getD i []) k → 0 ≤ k → k + (nR (xs.getD i []) : Int) ≤ 4611686018427387904 → l0 k (i : Int) = l0 (k + (nR (xs.getD i []) : Int)) ((i + 1 : Nat) : Int)) : l0 m 0 = some ⟨[[.int (m + (Fw xs : Int))]],[]⟩:=by
 have key : ∀ (ys : List (List U)) (k : Int) (i : Nat),i + ys.length = xs.length → ys = xs.drop i → (FH tx xs m).drop i = FH tx ys k → k + (Fw ys : Int) = m + (Fw xs : Int) → 0 ≤ k → l0 k (i : Int) = some ⟨[[.int (m + (Fw xs : Int))]],[]⟩:=by
  intro ys
  induction ys with
  | nil =>
   intro k i h1 h2 h3 h4 h5
   have hi : i = xs.length:=by simpa using h1
   subst hi
   rw [GY k,← h4]
   simp [Fw]
  | cons y ys ih =>
   intro k i h1 h2 h3 h4 h5
   simp only [qZq] at h1
   simp only [Fw] at h4
   have hi : i < xs.length:=by omega
   have hy : xs.getD i [] = y:=by
    rw [qQe]
    have : xs[i]? = (xs.drop i)[0]?:=by rw [qZb]; rfl
    rw [this,← h2]; rfl
   have hz : (FH tx xs m).getD i [] = HF tx y k:=by
    rw [qQe]
    have : (FH tx xs m)[i]? = ((FH tx xs m).drop i)[0]?:=by rw [qZb]; rfl
    rw [this,h3,FH]; rfl
   rw [iH i hi k (by rw [hy]; exact hz) h5 (by rw [hy]; omega),hy]
   refine ih (k + (nR y : Int)) (i + 1) (by omega) (by rw [← List.tail_drop,← h2]; rfl) ?_ (by omega) (by omega)
   rw [← List.tail_drop,h3,FH]; rfl
 exact key xs m 0 (by simp) rfl rfl rfl hm
/-- A loop that measures. -/
theorem Pb {l0 : Int → Int → Option aJ} {xs : List (List U)} {c : List U → Nat} (GY : ∀ l,l0 l (xs.length : Int) = some ⟨[[.int l]],[]⟩)
  (iH : ∀ i,i < xs.length → ∀ l : Int,0 ≤ l → l ≤ 1048576 → l0 l (i : Int) = if (c (xs.getD i []) : Int) ≤ l then l0 (l - (c (xs.getD i []) : Int)) ((i + 1 : Nat) : Int) else some ⟨[[.int (-1)]],[]⟩) :
  ∀ {l : Int},0 ≤ l → l ≤ 1048576 → l0 l 0 = some ⟨[[.int (Gd ((xs.map c).sum) l)]],[]⟩:=by
 have key : ∀ i,i ≤ xs.length → ∀ l : Int,0 ≤ l → l ≤ 1048576 → l0 l (i : Int) = some ⟨[[.int (Gd (((xs.drop i).map c).sum) l)]],[]⟩:=by
  refine down xs.length ?_ ?_
  ·intro l h0 h1
   rw [GY l,qYz]
   simp [Gd,h0]
  ·intro i hi h l h0 h1
   have e : xs.drop i = xs.getD i [] :: xs.drop (i + 1):=by
    rw [qYh hi,qQe,qQg hi]; rfl
   rw [iH i hi l h0 h1,e,qQ0,qXc]
   by_cases hc : (c (xs.getD i []) : Int) ≤ l
   ·rw [if_pos hc,h _ (by omega) (by omega)]
    unfold Gd
    by_cases h2 : (((xs.drop (i + 1)).map c).sum : Int) ≤ l - (c (xs.getD i []) : Int)
    ·have e2 : l - (c (xs.getD i []) : Int) - (((xs.drop (i + 1)).map c).sum : Int) = l - ((c (xs.getD i []) + ((xs.drop (i + 1)).map c).sum : Nat) : Int):=by omega
     rw [if_pos h2,if_pos (by omega),e2]
    ·rw [if_neg h2,if_neg (by omega)]
   ·rw [if_neg hc]
    unfold Gd
    rw [if_neg (by omega)]
 intro l h0 h1
 have:=key 0 (qQt _) l h0 h1
 simpa using this
theorem HP : ∀ xs : List (List U),Fy xs = xs.length + (xs.map FQ).sum
 | []=>by simp [Fy]
 | x :: xs=>by rw [Fy,HP xs,qQ0,qXc,qZq]; omega
end Go.Proofs.YtaghmjcfaplkiaaGreat.Eng
namespace Go.Proofs.YtaghmjcfaplkiaaGreat.Eng
open Go.RowKit
/-- One measure after the other. -/
theorem Hk {o : Option aJ} {a b : Nat} {l : Int} (h0 : 0 ≤ l) (h1 : l ≤ 1048576) (ho : o = some ⟨[[.int (Gd a l)]],[]⟩) {G : Int → Option aJ} (hG : ∀ l',0 ≤ l' → l' ≤ 1048576 → G l' = some ⟨[[.int (Gd b l')]],[]⟩) :
  (o.bind fun r=>bif decide ((r.u 0 0).toInt < 0) then some ⟨[[.int (-1)]],[]⟩ else G ((r.u 0 0).toInt)) = some ⟨[[.int (Gd (a + b) l)]],[]⟩:=by
 rw [ho]
 show (bif decide (Gd a l < 0) then some ⟨[[.int (-1)]],[]⟩ else G (Gd a l)) = _
 unfold Gd
 by_cases h : (a : Int) ≤ l
 ·rw [if_pos h,qQm (by omega),qQ3,hG _ (by omega) (by omega)]
  unfold Gd
  by_cases h2 : (b : Int) ≤ l - (a : Int)
  ·have e2 : l - (a : Int) - (b : Int) = l - ((a + b : Nat) : Int):=by omega
   rw [if_pos h2,if_pos (by omega),e2]
  ·rw [if_neg h2,if_neg (by omega)]
 ·rw [if_neg h,if_neg (by omega)]; rfl
theorem HK {l : Int} (h0 : 0 ≤ l) : (some ⟨[[.int l]],[]⟩ : Option aJ) = some ⟨[[.int (Gd 0 l)]],[]⟩:=by
 unfold Gd
 rw [if_pos (by omega)]; simp
/-- A step of a loop that measures. -/
theorem Pc {o : Option aJ} {a : Nat} {l : Int} (_h0 : 0 ≤ l) (ho : o = some ⟨[[.int (Gd a l)]],[]⟩) {G : Int → Option aJ} :
  (o.bind fun r=>bif decide ((r.u 0 0).toInt < 0) then some ⟨[[.int (-1)]],[]⟩ else G ((r.u 0 0).toInt)) = if (a : Int) ≤ l then G (l - (a : Int)) else some ⟨[[.int (-1)]],[]⟩:=by
 rw [ho]
 show (bif decide (Gd a l < 0) then some ⟨[[.int (-1)]],[]⟩ else G (Gd a l)) = _
 unfold Gd
 by_cases h : (a : Int) ≤ l
 ·rw [if_pos h,if_pos h,qQm (by omega),qQ3]
 ·rw [if_neg h,if_neg h]; rfl
theorem Il {l0 : Int → Option aJ} {n m : Nat} {l : Int} (hn : n ≤ 9223372036854775807) (h0 : 0 ≤ l) (h1 : l ≤ 1048576) (h : (n : Int) ≤ l → l0 (l - (n : Int)) = some ⟨[[.int (Gd m (l - (n : Int)))]],[]⟩) :
  (bif decide (IntKind.i64.wrap (l - (n : Int)) < 0) then some ⟨[[.int (-1)]],[]⟩ else l0 (IntKind.i64.wrap (l - (n : Int)))) = some ⟨[[.int (Gd (n + m) l)]],[]⟩:=by
 rw [Gs (by omega) (by omega)]
 by_cases hl : (n : Int) ≤ l
 ·rw [qQm (by omega),qQ3,h hl]
  unfold Gd
  by_cases h2 : (m : Int) ≤ l - (n : Int)
  ·have e2 : l - (n : Int) - (m : Int) = l - ((n + m : Nat) : Int):=by omega
   rw [if_pos h2,if_pos (by omega),e2]
  ·rw [if_neg h2,if_neg (by omega)]
 ·rw [qQa (by omega),qQh]
  unfold Gd
  rw [if_neg (by omega)]
theorem MH {xs : List (List U)} (h : ∀ x ∈ xs,FQ x = 0) : (xs.map FQ).sum = 0:=by
 induction xs with
 | nil=>rfl
 | cons x xs ih=>rw [qQ0,qXc,h x (by simp),ih fun y hy=>h y (by simp [hy])]
/-! ### Types of one shape -/
def CT.bE (HI : List (TypeId × TypeId)) : CT → CT
 | .aj e=>.aj ((HI.lookup e).getD e)
 | c=>c
def Wc (T : ax) (HI : List (TypeId × TypeId)) : Bool:=HI.all fun p=>decide ((T.ct p.1).map (CT.bE HI) = T.ct p.2)
theorem Zp {HI : List (TypeId × TypeId)} {e e' : TypeId} (h : HI.lookup e = some e') : (e,e') ∈ HI:=by
 induction HI with
 | nil=>cases h
 | cons p HI ih =>
  obtain ⟨a,b⟩:=p
  rw [List.lookup_cons] at h
  split at h
  ·rename_i he
   obtain rfl : e = a:=by simpa using he
   cases h; simp
  ·exact qZp _ (ih h)
theorem WT.Ge {T : ax} {HI : List (TypeId × TypeId)} (hp : Wc T HI = true) {ct : CT} {u : U} (h : WT T.ct ct u) : WT T.ct (ct.bE HI) u:=by
 induction h with
 | int k n h=>exact .int k n h
 | bool b=>exact .bool b
 | str s h=>exact .str s h
 | aj e xs hm hs h ih =>
  cases hl : HI.lookup e with
  | none =>
   show WT T.ct (.aj ((HI.lookup e).getD e)) _
   rw [hl]
   exact .aj e xs hm hs h
  | some e' =>
   show WT T.ct (.aj ((HI.lookup e).getD e)) _
   rw [hl]
   have h1:=qQp.1 hp _ (Zp hl)
   have h1 : (T.ct e).map (CT.bE HI) = T.ct e':=by simpa using h1
   refine .aj e' xs hm (fun i x hx=>?_) fun i j x u ct hx hu ai=>?_
   ·show x.length = (T.ct e').length
    rw [← h1,qQk]; exact hs i x hx
   ·have ai : (T.ct e')[j]? = some ct:=ai
    rw [← h1,qQj] at ai
    obtain ⟨c,hc,rfl⟩:=qQf.1 ai
    exact ih i j x u c hx hu hc
theorem zx.Ge {T : ax} {HI : List (TypeId × TypeId)} (hp : Wc T HI = true) {ab : List CT} {us : List U} (h : zx T.ct ab us) : zx T.ct (ab.map (CT.bE HI)) us:=by
 refine ⟨by rw [qQk]; exact h.1,fun j ct u ai hu=>?_⟩
 rw [qQj] at ai
 obtain ⟨c,hc,rfl⟩:=qQf.1 ai
 exact (h.2 j c u hc hu).Ge hp
theorem WR.Ge {T : ax} {HI : List (TypeId × TypeId)} (hp : Wc T HI = true) {e e' : TypeId} (he : HI.lookup e = some e') {xs : List (List U)} (h : WR T.ct e xs) : WR T.ct e' xs:=by
 refine ⟨h.1,fun x hx=>?_⟩
 have h1:=qQp.1 hp _ (Zp he)
 have h1 : (T.ct e).map (CT.bE HI) = T.ct e':=by simpa using h1
 have:=(h.2 x hx).Ge hp
 rw [h1] at this
 exact this
end Go.Proofs.YtaghmjcfaplkiaaGreat.Eng
namespace Go.Proofs.YtaghmjcfaplkiaaGreat.Eng
open Go.RowKit
theorem GD (tx : Int → ByteArray) (k : Int) : HF tx [] k = []:=by simp [HF]
theorem GB (tx : Int → ByteArray) (n : Int) (us : List U) (k : Int) : HF tx (.int n :: us) k = .int k :: HF tx us (k + 1):=by simp [HF,Ua,nU]
theorem GA (tx : Int → ByteArray) (b : Bool) (us : List U) (k : Int) : HF tx (.bool b :: us) k = .bool (decide (k.tmod 3 = 0)) :: HF tx us (k + 1):=by simp [HF,Ua,nU]
theorem agd (tx : Int → ByteArray) (b : ByteArray) (us : List U) (k : Int) : HF tx (.str b :: us) k = .str (tx k) :: HF tx us (k + 1):=by simp [HF,Ua,nU]
theorem GC (tx : Int → ByteArray) (xs : List (List U)) (us : List U) (k : Int) : HF tx (.lst xs :: us) k = .lst (FH tx xs k) :: HF tx us (k + (Fw xs : Int)):=by simp [HF,Ua,nU]
theorem Iz (xs ys : List (List U)) : cD xs [] ys = ys:=rfl
theorem Iq {xs : List (List U)} {i : Nat} {r : List U} (h : i < xs.length) : (xs.set i r).getD i [] = r:=by
 rw [qQe,qYy h]; rfl
theorem Ho {n : Int} (h : 0 ≤ n) : decide (n < 0) = false:=qQm (by omega)
theorem IA {xs : List (List U)} {i : Nat} {r r' : List U} : (xs.set i r).set i r' = xs.set i r':=List.set_set ..
def FC : Int → ByteArray:=fun _=>ByteArray.empty
end Go.Proofs.YtaghmjcfaplkiaaGreat.Eng
namespace Go.Proofs.YtaghmjcfaplkiaaGreat.Eng
open Go.RowKit
theorem Zu : ∀ {x : List U},(∀ u ∈ x,nU u ≤ 64 * FX u + 1) → nR x ≤ 64 * FQ x + x.length
 | [],_=>by simp [nR]
 | u :: us,h=>by
  have h1:=h u (by simp)
  have h2:=Zu (x:=us) fun v hv=>h v (by simp [hv])
  simp only [nR,FQ,qZq]; omega
theorem Xr : ∀ {xs : List (List U)},(∀ x ∈ xs,x.length ≤ 64 ∧ ∀ u ∈ x,nU u ≤ 64 * FX u + 1) → Fw xs ≤ 64 * Fy xs
 | [],_=>by simp [Fw]
 | x :: xs,h=>by
  have h1:=Zu (h x (by simp)).2
  have h0:=(h x (by simp)).1
  have h2:=Xr (xs:=xs) fun y hy=>h y (by simp [hy])
  simp only [Fw,Fy]; omega
theorem WT.GO {T : bl} (hB : ∀ e,(T e).length ≤ 64) {ct : CT} {u : U} (h : WT T ct u) : nU u ≤ 64 * FX u + 1:=by
 induction h with
 | int=>simp [nU]
 | bool=>simp [nU]
 | str=>simp [nU]
 | aj e xs hm hs h ih =>
  have : Fw xs ≤ 64 * Fy xs:=Xr fun x hx=>by
   obtain ⟨i,hi⟩:=qZ0 hx
   refine ⟨by rw [hs i x hi]; exact hB e,fun u hu=>?_⟩
   obtain ⟨j,hj⟩:=qZ0 hu
   have av : j < (T e).length:=by rw [← hs i x hi]; exact aA hj
   exact ih i j x u _ hi hj (qQg av)
  simp only [nU,FX]; omega
theorem WR.GO {T : bl} (hB : ∀ e,(T e).length ≤ 64) {e : TypeId} {xs : List (List U)} (h : WR T e xs) : Fw xs ≤ 64 * Fy xs:=Xr fun x hx=>by
 have hw:=h.2 x hx
 refine ⟨by rw [hw.1]; exact hB e,fun u hu=>?_⟩
 obtain ⟨j,hj⟩:=qZ0 hu
 have av : j < (T e).length:=by rw [← hw.1]; exact aA hj
 exact (hw.2 j _ u (qQg av) hj).GO hB
theorem af8 {T : ax} (h : (T.all fun r=>decide (r.ab.length ≤ 64)) = true) (e : TypeId) : (T.ct e).length ≤ 64:=by
 unfold ax.ct ax.row
 rw [qQe]
 cases hx : T[e]? with
 | none=>simp
 | some r=>simpa using qQp.1 h r (qQz hx)
end Go.Proofs.YtaghmjcfaplkiaaGreat.Eng
/- half -/
