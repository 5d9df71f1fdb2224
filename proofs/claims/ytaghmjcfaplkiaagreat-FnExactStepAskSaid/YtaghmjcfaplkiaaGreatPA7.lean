/- Who is below a role: the program's queue. -/
import Derived.Test.YtaghmjcfaplkiaaGreatPA6
namespace Go.Proofs.YtaghmjcfaplkiaaGreat.Eng
open Go.RowKit
set_option linter.unusedVariables false
set_option linter.unusedSimpArgs false
set_option linter.unusedSectionVars false
set_option maxRecDepth 100000
variable [Sm]
theorem aaR (l : LL) (hl : l.length ≤ 4611686018427387904) (a : Int) (c0 c1 c2 c3 c4 c5 : Bool) : ∀ i,i ≤ l.length → ∀ (f : Mk) (q : LL),q.length + (6 - KZ f) ≤ 100 →
  Hp.l1 l a l (ln l) (i : Int) c0 c1 c2 c3 c4 c5 (f 0) (f 1) (f 2) (f 3) (f 4) (f 5) q = Hp.l0 l c0 c1 c2 c3 c4 c5 ((Hl a (l.drop i) f).1 0) ((Hl a (l.drop i) f).1 1) ((Hl a (l.drop i) f).1 2) ((Hl a (l.drop i) f).1 3) ((Hl a (l.drop i) f).1 4) ((Hl a (l.drop i) f).1 5) (q ++ (Hl a (l.drop i) f).2):=by
 refine down l.length ?_ ?_
 ·intro f q hq
  rw [Hp.IE,FO (qQb _),qYz]
  show Hp.l0 _ _ _ _ _ _ _ _ _ _ _ _ _ q = Hp.l0 _ _ _ _ _ _ _ _ _ _ _ _ _ (q ++ [])
  rw [qX1]; rfl
 ·intro i hi ih f q hq
  rw [Hp.IE,FN hi,FU hi,FZ (by omega),Qs hi]
  have e0 : gi l (i : Int) 0 = ui (l.getD i []) 0:=rfl
  have e1 : gi l (i : Int) 1 = ui (l.getD i []) 1:=rfl
  rw [e0,e1]
  unfold Hl
  generalize ui (l.getD i []) 0 = x
  generalize ui (l.getD i []) 1 = y
  simp only [Zf,q0,qb,Hv,qQh]
  by_cases hx : x = a
  rotate_left
  ·rw [qQm hx,if_neg (fun h=>hx h.1)]
   exact ih f q hq
  cases hy : within y 0 5
  ·rw [qQa hx,if_neg (fun h=>by
    rw [Yd h.2.1.1 h.2.1.2] at hy; cases hy)]
   exact ih f q hq
  obtain ⟨h1,h2⟩:=Gx hy
  obtain ⟨k,rfl⟩:=qXq h1
  have hk : k < 6:=by omega
  rw [qQa hx,qQh,qQh,FU hk,qQd,Yq f hk]
  show EK (decide (k < 6)) (bif !(f k) then EK (decide (k < 6)) (EK (room (q.length + 1) 8) _) else _) = _
  rw [qQa hk]
  cases hf : f k
  ·have hc:=WM hk hf
   have hle:=WL (up f k)
   rw [if_pos ⟨hx,⟨h1,h2⟩,rfl⟩]
   show EK (room (q.length + 1) 8) _ = _
   rw [FV (by omega) (by omega),Hv]
   have:=ih (up f k) (q ++ [[U.int (k : Int)]]) (by rw [qQ6]; show q.length + 1 + _ ≤ _; omega)
   rw [qZ4] at this
   exact this
  ·rw [if_neg (fun h=>by cases h.2.2)]
   exact ih f q hq
theorem Yp (l : LL) (hl : l.length ≤ 4611686018427387904) (r : Nat) (c0 c1 c2 c3 c4 c5 : Bool) : ∀ (n : Nat) (f : Mk) (q : LL),NP l r f q → q.length + (6 - KZ f) ≤ n → n ≤ 100 →
  Hp.l0 l c0 c1 c2 c3 c4 c5 (f 0) (f 1) (f 2) (f 3) (f 4) (f 5) q = some ⟨[[.bool (KS l r 0),.bool (KS l r 1),.bool (KS l r 2),.bool (KS l r 3),.bool (KS l r 4),.bool (KS l r 5)]],[]⟩
 | n,f,[],h,hn,h100=>by
  have e : f = KS l r:=by
   funext k
   rw [qXi,h.done k]
   simp [KS]
  rw [Hp.Fx,e]; rfl
 | 0,f,y :: q,h,hn,h100=>by simp at hn
 | n + 1,f,y :: q,h,hn,h100=>by
  have e1 : List.take (ln (y :: q) - 1).toNat (List.drop (Int.toNat 1) (y :: q)) = q:=by
   show List.take (ln (y :: q) - 1).toNat q = q
   refine qXf ?_
   show q.length ≤ (((q.length + 1 : Nat) : Int) - 1).toNat
   omega
  have e2 : decide ((0 : Int) ≤ 1 ∧ (1 : Int) ≤ ln (y :: q) ∧ ln (y :: q) ≤ ln (y :: q)) = true:=by
   refine qQa ⟨by omega,?_,qZx _⟩
   show (1 : Int) ≤ ((q.length + 1 : Nat) : Int)
   omega
  have e3 : decide (ln (y :: q) > 0) = true:=by
   refine qQa ?_
   show (0 : Int) < ((q.length + 1 : Nat) : Int)
   omega
  have ca : q.length + 1 + (6 - KZ f) ≤ n + 1:=hn
  have h1:=WH (ui y 0) l f
  have h2:=WL (Hl (ui y 0) l f).1
  rw [Hp.Fx,e3,e2,e1,show dE (0 : Int) (y :: q).length = true from FU (i:=0) (Nat.succ_pos _)]
  show Hp.l1 l (ui y 0) l (ln l) 0 c0 c1 c2 c3 c4 c5 (f 0) (f 1) (f 2) (f 3) (f 4) (f 5) q = _
  have h3:=aaR l hl (ui y 0) c0 c1 c2 c3 c4 c5 0 (qQt _) f q (by omega)
  rw [qYp] at h3
  exact h3.trans (Yp l hl r c0 c1 c2 c3 c4 c5 n _ _ h.next (by rw [qQ6]; omega) (by omega))
theorem aa0 : Pf:=fun l r hl hr=>by
 rw [Hp.eq]
 exact Yp l hl r false false false false false false 100 (fun _=>false) [[U.int (r : Int)]] (NP.init l hr) (by show 1 + _ ≤ _; omega) (qQb _)
end Go.Proofs.YtaghmjcfaplkiaaGreat.Eng
/- half -/
