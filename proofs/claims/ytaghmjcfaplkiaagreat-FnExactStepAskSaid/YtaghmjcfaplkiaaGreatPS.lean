/- Loops that search,count,gather: of no program. -/
import Derived.Test.YtaghmjcfaplkiaaGreatPM
namespace Go.Proofs.YtaghmjcfaplkiaaGreat.Eng
open Go.RowKit
set_option linter.unusedVariables false

theorem Ri {α : Type} (xs : List α) (z : α) (q : α → Bool) : (List.range xs.length).any (fun i=>q (xs.getD i z)) = xs.any q:=by
 have e : (List.range xs.length).map (fun i=>xs.getD i z) = xs:=by
  apply qZm
  intro i
  rw [qQj]
  by_cases h : i < xs.length
  ·rw [qZy h,qQ7,qQe,qQg h]; rfl
  ·rw [qZh (by simpa using h),qZh (by omega)]; rfl
 conv=>rhs; rw [← e,List.any_map]
 rfl
theorem XH {α : Type} (xs : List α) (z : α) (q : α → Bool) : (List.range xs.length).all (fun i=>q (xs.getD i z)) = xs.all q:=by
 have:=Ri xs z (fun x=>!q x)
 rw [qYw,qYw,this]
/-- A loop that looks for something. -/
theorem Yl {l0 : Int → Option aJ} {n : Nat} {p : Nat → Bool} (GY : l0 (n : Int) = rB false) (iH : ∀ i,i < n → l0 (i : Int) = bif p i then rB true else l0 ((i + 1 : Nat) : Int)) : l0 0 = rB ((List.range n).any p):=by
 have key : ∀ i,i ≤ n → l0 (i : Int) = rB ((List.range' i (n - i)).any p):=by
  refine down n ?_ ?_
  ·rw [GY,qZn]; rfl
  ·intro i hi h
   rw [iH i hi,show n - i = (n - (i + 1)) + 1 from by omega,qXu,qYn]
   cases p i
   ·rw [qQ3,h,Bool.false_or]
   ·rfl
 have:=key 0 (qQt _)
 rw [qXv]
 simpa using this
/-- A loop that looks whether all are so. -/
theorem Oj {l0 : Int → Option aJ} {n : Nat} {p : Nat → Bool} {b : Bool} (GY : l0 (n : Int) = rB b) (iH : ∀ i,i < n → l0 (i : Int) = bif p i then l0 ((i + 1 : Nat) : Int) else rB false) : l0 0 = rB ((List.range n).all p && b):=by
 have key : ∀ i,i ≤ n → l0 (i : Int) = rB ((List.range' i (n - i)).all p && b):=by
  refine down n ?_ ?_
  ·rw [GY,qZn]; simp
  ·intro i hi h
   rw [iH i hi,show n - i = (n - (i + 1)) + 1 from by omega,qXu,List.all_cons]
   cases p i
   ·rfl
   ·rw [qQh,h,qXb]
 have:=key 0 (qQt _)
 rw [qXv]
 simpa using this
/-- Loops that look whether all are so,whatever they give then. -/
theorem Yk {l0 : Int → Option aJ} {n : Nat} {p : Nat → Bool} {R F : Option aJ} (GY : l0 (n : Int) = R) (iH : ∀ i,i < n → l0 (i : Int) = bif p i then l0 ((i + 1 : Nat) : Int) else F) : l0 0 = bif (List.range n).all p then R else F:=by
 have key : ∀ i,i ≤ n → l0 (i : Int) = bif (List.range' i (n - i)).all p then R else F:=by
  refine down n ?_ ?_
  ·rw [GY,qZn]; rfl
  ·intro i hi h
   rw [iH i hi,show n - i = (n - (i + 1)) + 1 from by omega,qXu,List.all_cons]
   cases p i
   ·rfl
   ·rw [qQh,h,qXb]
 have:=key 0 (qQt _)
 rw [qXv]
 simpa using this
theorem Ym {l0 : Int → Option aJ} {n : Nat} {p : Nat → Bool} {R F : Option aJ} (GY : l0 (n : Int) = R) (iH : ∀ i,i < n → l0 (i : Int) = bif p i then F else l0 ((i + 1 : Nat) : Int)) : l0 0 = bif (List.range n).any p then F else R:=by
 rw [Yk (p:=fun i=>!p i) (R:=R) (F:=F) GY fun i hi=>by rw [iH i hi]; cases p i <;> rfl,qYw]
 simp only [Bool.not_not]
 cases (List.range n).any p <;> rfl
/-- Where the first one is. -/
def pos (p : Nat → Bool) : Nat → Nat → Int
 | 0,_=>-1
 | k + 1,i=>if p i then (i : Int) else pos p k (i + 1)
theorem ZB (p : Nat → Bool) : ∀ (k i : Nat),decide (pos p k i ≥ 0) = (List.range' i k).any p
 | 0,i=>by simp [pos]
 | k + 1,i=>by
  rw [qXu,qYn,pos]
  cases h : p i
  ·rw [if_neg (by simp),ZB p k (i + 1),Bool.false_or]
  ·rw [if_pos rfl,Bool.true_or]
   exact qQa (by omega)
theorem La {l0 : Int → Option aJ} {n : Nat} {p : Nat → Bool} (GY : l0 (n : Int) = rI (-1)) (iH : ∀ i,i < n → l0 (i : Int) = bif p i then rI (i : Int) else l0 ((i + 1 : Nat) : Int)) : l0 0 = rI (pos p n 0):=by
 have key : ∀ i,i ≤ n → l0 (i : Int) = rI (pos p (n - i) i):=by
  refine down n ?_ ?_
  ·rw [GY,qZn]; rfl
  ·intro i hi h
   rw [iH i hi,show n - i = (n - (i + 1)) + 1 from by omega,pos]
   cases p i
   ·rw [qQ3,h,if_neg (by simp)]
   ·rfl
 have:=key 0 (qQt _)
 simpa using this
/-- A loop that gathers rows. -/
theorem Ph {l0 : Int → List (List U) → Option aJ} {n : Nat} {p : Nat → Bool} {row : Nat → List U} {R : List (List U) → Option aJ} (GY : ∀ s,s.length ≤ n → l0 (n : Int) s = R s)
  (iH : ∀ i,i < n → ∀ s : List (List U),s.length ≤ i → l0 (i : Int) s = bif p i then l0 ((i + 1 : Nat) : Int) (s ++ [row i]) else l0 ((i + 1 : Nat) : Int) s) : l0 0 [] = R (((List.range n).filter p).map row):=by
 have key : ∀ i,i ≤ n → l0 0 [] = l0 (i : Int) (((List.range i).filter p).map row):=by
  intro i
  induction i with
  | zero=>exact fun _=>rfl
  | succ i ih =>
   intro hi
   have hle : (((List.range i).filter p).map row).length ≤ i:=by
    rw [qQk]; exact qZd (qYv _ _) (by simp)
   rw [ih (by omega),iH i (by omega) _ hle,List.range_succ,List.filter_append,List.map_append]
   cases h : p i <;> simp [h]
 rw [key n (qQb _)]
 exact GY _ (by rw [qQk]; exact qZd (qYv _ _) (by simp))
theorem adQ {α β : Type} (xs : List α) (z : α) (q : α → Bool) (r : α → β) : ((List.range xs.length).filter (fun i=>q (xs.getD i z))).map (fun i=>r (xs.getD i z)) = (xs.filter q).map r:=by
 have e:=HN xs z
 conv=>rhs; rw [← e,List.filter_map,qYx]
 rfl
/-- One cell is set. -/
theorem zx.set {T : bl} {ab : List CT} {us : List U} (h : zx T ab us) {i : Nat} {ct : CT} (hc : ab[i]? = some ct) {u : U} (hu : WT T ct u) : zx T ab (us.set i u):=by
 refine ⟨by rw [qQl]; exact h.1,fun j br u' h1 h2=>?_⟩
 by_cases hj : i = j
 ·subst hj
  have hl : i < us.length:=by
   have:=aA h2
   rwa [qQl] at this
  rw [qYy hl] at h2
  cases h2
  rw [hc] at h1; cases h1; exact hu
 ·rw [qYo hj] at h2
  exact h.2 j br u' h1 h2
/-- A loop that carries a state. -/
theorem ab9 {S : Type} {l0 : Int → S → Option aJ} {n : Nat} {step : S → Nat → S} {R : S → Option aJ} {I : Nat → S → Prop} (GY : ∀ s,I n s → l0 (n : Int) s = R s) (iH : ∀ i,i < n → ∀ s,I i s → I (i + 1) (step s i) ∧ l0 (i : Int) s = l0 ((i + 1 : Nat) : Int) (step s i)) {s0 : S} (h0 : I 0 s0) :
  l0 0 s0 = R ((List.range n).foldl step s0) ∧ I n ((List.range n).foldl step s0):=by
 have key : ∀ i,i ≤ n → I i ((List.range i).foldl step s0) ∧ l0 0 s0 = l0 (i : Int) ((List.range i).foldl step s0):=by
  intro i
  induction i with
  | zero=>exact fun _=>⟨h0,rfl⟩
  | succ i ih =>
   intro hi
   obtain ⟨h1,h2⟩:=ih (by omega)
   obtain ⟨h3,h4⟩:=iH i (by omega) _ h1
   rw [List.range_succ,qXw]
   exact ⟨h3,h2.trans h4⟩
 obtain ⟨h1,h2⟩:=key n (qQb _)
 exact ⟨h2.trans (GY _ h1),h1⟩
end Go.Proofs.YtaghmjcfaplkiaaGreat.Eng
/- half -/
