/- Roles and conditions,as the program has them. -/
import Derived.Test.YtaghmjcfaplkiaaGreatPA4
namespace Go.Proofs.YtaghmjcfaplkiaaGreat.Eng
open Go.RowKit
set_option linter.unusedVariables false
set_option linter.unusedSimpArgs false
set_option linter.unusedSectionVars false
set_option maxRecDepth 100000
variable [Sm]
/-! ### Sorted lists -/
theorem Xp (x : Int) : ∀ l : List Int,x ∈ gJ l ↔ x ∈ l
 | []=>Iff.rfl
 | y :: l=>by
  have ih:=Xp x l
  unfold gJ
  split
  ·rename_i h
   rw [h] at ih
   rw [qQn,qQn,← ih]
  ·rename_i z k h
   rw [h] at ih
   split
   ·rename_i hy
    subst hy
    rw [qQn (l:=l),← ih]
    simp
   ·rw [qQn,qQn (l:=l),← ih]
theorem Yw : ∀ l : List Int,l.Pairwise (· ≤ ·) → (gJ l).Pairwise (· < ·)
 | [],_=>List.Pairwise.nil
 | x :: l,h=>by
  obtain ⟨h1,h2⟩:=qXr.1 h
  have ih:=Yw l h2
  have hm:=fun z=>Xp z l
  unfold gJ
  split
  ·exact List.pairwise_singleton ..
  ·rename_i y k hk
   rw [hk] at ih hm
   split
   ·exact ih
   ·rename_i aW
    obtain ⟨h3,h4⟩:=qXr.1 ih
    have hxy : x ≤ y:=h1 y ((hm y).1 (by simp))
    refine qXr.2 ⟨fun z hz=>?_,ih⟩
    rcases qQn.1 hz with rfl | hz
    ·omega
    ·have:=h3 z hz; omega
theorem aay : ∀ (a b : List Int),a.Pairwise (· < ·) → b.Pairwise (· < ·) → (∀ x,x ∈ a ↔ x ∈ b) → a = b
 | [],[],_,_,_=>rfl
 | [],y :: b,_,_,h=>by have:=(h y).2 (by simp); simp at this
 | x :: a,[],_,_,h=>by have:=(h x).1 (by simp); simp at this
 | x :: a,y :: b,ha,hb,h=>by
  obtain ⟨h1,h2⟩:=qXr.1 ha
  obtain ⟨h3,h4⟩:=qXr.1 hb
  obtain rfl : x = y:=by
   rcases qQn.1 ((h x).1 (by simp)) with e | e
   ·exact e
   ·rcases qQn.1 ((h y).2 (by simp)) with e' | e'
    ·exact e'.symm
    ·have:=h3 x e; have:=h1 y e'; omega
  congr 1
  refine aay a b h2 h4 fun z=>?_
  have:=h z
  simp only [qQn] at this
  constructor
  ·intro hz
   rcases this.1 (.inr hz) with rfl | e
   ·have:=h1 z hz; omega
   ·exact e
  ·intro hz
   rcases this.2 (.inr hz) with rfl | e
   ·have:=h3 z hz; omega
   ·exact e
theorem aeS (l : List Int) : (qT l).Pairwise (· ≤ ·):=by
 have:=List.pairwise_mergeSort (le:=fun x y : Int=>decide (x ≤ y)) (fun a b c h1 h2=>by simp only [qQw] at *; omega) (fun a b=>by simp only [qZw,qQw]; omega) l
 exact this.imp fun h=>by simpa using h
theorem aeR (l : List Int) (x : Int) : x ∈ qT l ↔ x ∈ l:=List.mem_mergeSort
theorem adW (l : List Int) : cW (gv l) = l:=by
 unfold cW gv
 rw [qYx]
 conv=>rhs; rw [← qYg l]
 rfl
/-- Sorted,without repetitions: the numbers that are marked. -/
theorem abo {xs : LL} {f : Mk} (h1 : ∀ x ∈ xs,∃ k : Nat,k < 6 ∧ x = [U.int (k : Int)]) (h2 : ∀ k : Nat,k < 6 → ([U.int (k : Int)] ∈ xs ↔ f k = true)) : vW (uU xs) = HS f:=by
 have e : HS f = gv (((List.range 6).filter f).map fun k : Nat=>(k : Int)):=by
  unfold HS gv
  rw [qYx]; rfl
 unfold vW uU
 rw [adW,e]
 congr 1
 refine aay _ _ (Yw _ (aeS _)) ?_ fun x=>?_
 ·rw [List.pairwise_map]
  refine (List.Pairwise.filter f (List.pairwise_lt_range (n:=6))).imp fun h=>by omega
 ·rw [Xp,aeR]
  simp only [cW,qQo,qZa,qZt]
  constructor
  ·rintro ⟨y,hy,rfl⟩
   obtain ⟨k,hk,rfl⟩:=h1 y hy
   exact ⟨k,⟨hk,(h2 k hk).1 hy⟩,rfl⟩
  ·rintro ⟨k,⟨hk,hf⟩,rfl⟩
   exact ⟨_,(h2 k hk).2 hf,rfl⟩
/-! ### Who is under a role -/
open Classical in
noncomputable def KS (l : LL) (r : Nat) : Mk:=fun k=>decide (Qk l r k)
theorem Zf (a : Int) : QN.c a = rB (within a 0 5):=by simp only [QN.eq,HQ,q0,qb]
theorem Yq (f : Mk) {k : Nat} (h : k < 6) : [f 0,f 1,f 2,f 3,f 4,f 5].getD k false = f k:=by
 rcases (by omega : k = 0 ∨ k = 1 ∨ k = 2 ∨ k = 3 ∨ k = 4 ∨ k = 5) with rfl | rfl | rfl | rfl | rfl | rfl <;> rfl
theorem adg (r : Int) (f : Mk) : Km.l0 r (f 0) (f 1) (f 2) (f 3) (f 4) (f 5) 0 [] = rL (HS fun k=>f k || decide ((k : Int) = r)):=by
 refine Ph (l0:=fun i s=>Km.l0 r (f 0) (f 1) (f 2) (f 3) (f 4) (f 5) i s) (n:=6) (p:=fun k=>f k || decide ((k : Int) = r)) (row:=fun k=>[U.int (k : Int)]) (R:=fun s=>rL s) (fun s hs=>?_) fun i hi s hs=>?_
 ·rw [Km.Fx]; rfl
 ·rw [Km.Fx,qQa (by omega),FU hi,FZ (by omega),qQd,Yq f hi,FV (by simp; omega) (by simp; omega)]
  cases f i <;> cases decide ((i : Int) = r) <;> rfl
def Pf : Prop:=∀ (l : LL) (r : Nat),l.length ≤ 4611686018427387904 → r < 6 → Hp.c l (r : Int) = some ⟨[[.bool (KS l r 0),.bool (KS l r 1),.bool (KS l r 2),.bool (KS l r 3),.bool (KS l r 4),.bool (KS l r 5)]],[]⟩
theorem adp (hB : Pf) (l : LL) (hl : l.length ≤ 4611686018427387904) (role : Int) : Km.c l role = rL (under l role):=by
 rw [Km.eq,Zf]
 simp only [q0,qb]
 unfold under
 cases h : within role 0 5
 ·rfl
 ·obtain ⟨h1,h2⟩:=Gx h
  obtain ⟨r,rfl⟩:=qXq h1
  rw [hB l r hl (by omega)]
  refine (adg (r : Int) (KS l r)).trans ?_
  show rL _ = rL (HS (OX l (Int.toNat (r : Int))))
  congr 2
  funext k
  rw [qQd,qXi]
  simp only [OX,KS,qZw,qQw]
  rw [IK.Ys]
  constructor
  ·rintro (h | h)
   ·exact .inr h
   ·exact .inl (by omega)
  ·rintro (h | h)
   ·exact .inr (by omega)
   ·exact .inl h
theorem af5 {l : LL} {role : Int} {k : Nat} (hk : k < 6) : [U.int (k : Int)] ∈ under l role ↔ (bif within role 0 5 then (decide (k < 6) && OX l role.toNat k) else false) = true:=by
 unfold under
 cases within role 0 5
 ·simp
 ·simp only [qQh,qQi,qQw]
  rw [Ub]
  constructor
  ·rintro ⟨j,h1,h2,h3⟩
   simp only [qXk,U.int.injEq,and_true] at h3
   obtain rfl : k = j:=by omega
   exact ⟨hk,h2⟩
  ·rintro ⟨_,h⟩
   exact ⟨k,hk,h,rfl⟩
theorem af4 {l : LL} {role : Int} {x : List U} (h : x ∈ under l role) : ∃ k : Nat,k < 6 ∧ x = [U.int (k : Int)]:=by
 unfold under at h
 cases hw : within role 0 5
 ·rw [hw] at h; simp at h
 ·rw [hw] at h
  obtain ⟨k,h1,_,h3⟩:=Ub.1 h
  exact ⟨k,h1,h3⟩
theorem afp {s : LL} {i : Nat} (hi : i < s.length) : s.take (i + 1) = s.take i ++ [s.getD i []]:=by
 rw [List.take_succ_eq_append_getElem hi,qQe,qQg hi]; rfl
theorem adf (hB : Pf) (l s : LL) (hl : l.length ≤ 4611686018427387904) (hs : s.length ≤ 1048576) (p now FY : Int) : Kl.c l s p now FY = rL (HS (XI l s p now FY)):=by
 rw [Kl.eq]
 have:=ab9 (l0:=fun i acc=>Kl.l0 l p now FY s (ln s) i acc) (n:=s.length) (step:=fun (acc : LL) i=>bif PJ p now FY (s.getD i []) then acc ++ under l (ui (s.getD i []) 2) else acc) (R:=fun acc=>rL (vW (uU acc)))
  (I:=fun i acc=>acc.length ≤ 6 * i ∧ (∀ x ∈ acc,∃ k : Nat,k < 6 ∧ x = [U.int (k : Int)]) ∧ ∀ k : Nat,k < 6 → ([U.int (k : Int)] ∈ acc ↔ (s.take i).foldl (Uc l p now FY) (fun _=>false) k = true)) (s0:=[])
  (fun acc ⟨h1,_,_⟩=>?_) (fun i hi acc ⟨h1,h2,h3⟩=>?_) ⟨by simp,fun x hx=>by simp at hx,fun k _=>by simp⟩
 ·obtain ⟨q1,q2,q3,q4⟩:=this
  rw [List.take_length] at q4
  exact q1.trans (qQq rL (abo q3 q4))
 ·have e : (uU acc).length = acc.length:=by unfold uU; rw [Ct,Ec]; simp [cW]
  rw [Kl.Fx,FO (qQb _),e,FV (by omega) (by omega)]; rfl
 ·refine ⟨⟨?_,?_,?_⟩,?_⟩
  ·cases PJ p now FY (s.getD i [])
   ·show acc.length ≤ _; omega
   ·have:=aaG l (ui (s.getD i []) 2)
    show (acc ++ _).length ≤ _
    rw [qQ6]; omega
  ·intro x hx
   cases hr : PJ p now FY (s.getD i [])
   ·rw [hr] at hx; exact h2 x hx
   ·rw [hr] at hx
    rcases qZg.1 hx with hx | hx
    ·exact h2 x hx
    ·exact af4 hx
  ·intro k hk
   rw [afp hi,qXw,List.foldl_cons,List.foldl_nil]
   unfold Uc
   cases PJ p now FY (s.getD i [])
   ·exact h3 k hk
   ·show [U.int (k : Int)] ∈ acc ++ _ ↔ ((bif within (ui (s.getD i []) 2) 0 5 then (decide (k < 6) && OX l (ui (s.getD i []) 2).toNat k) else false) || _) = true
    rw [qZg,af5 hk,h3 k hk,qZw,or_comm]; rfl
  ·have hu:=aaG l (ui (s.getD i []) 2)
   rw [Kl.Fx,FN hi,FU hi,FZ (by omega)]
   simp only [Xc,adp hB l hl,q0,qb,ql,Hv,qQh]
   have er : PJ p now FY (s.getD i []) = (decide (gi s (i : Int) 0 = 1) && (decide (gi s (i : Int) 1 = p) && NY (gi s (i : Int) 0) (gi s (i : Int) 1) (gi s (i : Int) 2) (gi s (i : Int) 3) (gi s (i : Int) 4) (gi s (i : Int) 5) now FY)):=rfl
   rw [er]
   cases decide (gi s (i : Int) 0 = 1)
   ·rfl
   cases decide (gi s (i : Int) 1 = p)
   ·rfl
   cases NY _ _ _ _ _ _ now FY
   ·rfl
   show EK (room (acc.length + (under l (ui (s.getD i []) 2)).length) 8) _ = _
   rw [FV (by omega) (by omega)]; rfl
theorem ac1 (hB : Pf) (l s : LL) (hl : l.length ≤ 4611686018427387904) (hs : s.length ≤ 1048576) (o a b : Int) (xs : LL) (p d g ac ob now : Int) : SE.c l s o a b xs p d g ac ob now = rB (leaf l s p d g now o a b):=by
 have aM : s.length ≤ 4611686018427387904:=by omega
 simp only [SE.eq,VO.eq,adf hB l s hl hs,acS s aM,acC s aM,q0,ql,qi,qb,Xb _ (qZd (Wk _) (by decide)),cB,ZA]
 unfold leaf
 cases decide (o = 6) <;> first | rfl | (rw [← ZA]; rfl)
end Go.Proofs.YtaghmjcfaplkiaaGreat.Eng
/- half -/
