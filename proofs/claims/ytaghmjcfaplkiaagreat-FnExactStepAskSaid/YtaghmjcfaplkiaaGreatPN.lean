/- Normal forms of what functions give: of no program. -/
import Derived.Test.YtaghmjcfaplkiaaGreatPS
namespace Go.Proofs.YtaghmjcfaplkiaaGreat.Eng
open Go.RowKit
set_option linter.unusedVariables false

theorem q0 {f : aJ → O} {r : aJ} : (some r : O).bind f = f r:=rfl
theorem qb {b : Bool} : (⟨[[.bool b]],[]⟩ : aJ).b 0 = b:=rfl
theorem qi {n : Int} : (⟨[[.int n]],[]⟩ : aJ).i 0 = n:=rfl
theorem ql {xs : LL} : (⟨[[.lst xs]],[]⟩ : aJ).l 0 = xs:=rfl
/-- Truth values,from all ways. -/
theorem cB {a x y : Bool} : (bif a then rB x else rB y) = rB (bif a then x else y):=by cases a <;> rfl
theorem cI {a : Bool} {x y : Int} : (bif a then rI x else rI y) = rI (bif a then x else y):=by cases a <;> rfl
/-- Ways that go on,and ways that end. -/
theorem e1 {a p : Bool} {X F : O} : (bif a then F else (bif p then X else F)) = bif (!a && p) then X else F:=by cases a <;> cases p <;> rfl
theorem e2 {a p : Bool} {X F : O} : (bif a then (bif p then X else F) else F) = bif (a && p) then X else F:=by cases a <;> cases p <;> rfl
theorem e3 {a p : Bool} {X F : O} : (bif a then (bif p then X else F) else X) = bif (!a || p) then X else F:=by cases a <;> cases p <;> rfl
theorem e5 {a b : Bool} {X : O} : (bif a then rB b else X) = bif !a then X else rB b:=by cases a <;> rfl
theorem Nb {α : Type} {a : Bool} {x y : α} : (bif !a then x else y) = bif a then y else x:=by cases a <;> rfl
theorem Yt {a x : Bool} : (bif a then true else x) = (a || x):=by cases a <;> rfl
theorem GX {a x : Bool} : (bif a then x else false) = (a && x):=by cases a <;> rfl
theorem Qx {b : Bool} {x : O} (h : b = true) : EK b x = x:=by rw [h]; rfl
end Go.Proofs.YtaghmjcfaplkiaaGreat.Eng
namespace Go.Proofs.YtaghmjcfaplkiaaGreat.Eng
open Go.RowKit
/-- A loop that folds. -/
theorem NW {S : Type} {l0 : S → Int → O} {xs : LL} {st : S → List U → S} {R : S → O} (GY : ∀ s,l0 s (xs.length : Int) = R s) (iH : ∀ i,i < xs.length → ∀ s,l0 s (i : Int) = l0 (st s (xs.getD i [])) ((i + 1 : Nat) : Int)) : ∀ s,l0 s 0 = R (xs.foldl st s):=by
 have key : ∀ i,i ≤ xs.length → ∀ s,l0 s (i : Int) = R ((xs.drop i).foldl st s):=by
  refine down xs.length ?_ ?_
  ·intro s; rw [GY,qYz]; rfl
  ·intro i hi h s
   have e : xs.drop i = xs.getD i [] :: xs.drop (i + 1):=by
    rw [qYh hi,qQe,qQg hi]; rfl
   rw [iH i hi s,h,e]; rfl
 intro s
 exact key 0 (qQt _) s
theorem Jg {n : Int} (h : -9223372036854775808 ≤ n) (h' : n ≤ 9223372036854775807) : Ft n = n:=Gs h h'
theorem FZ {n : Nat} (h : n ≤ 9223372036854775806) : Ft ((n : Int) + 1) = ((n + 1 : Nat) : Int):=FW h
theorem Hv {x : O} : EK true x = x:=rfl
theorem Zt {a b : Int} : (if true = true then max a b else min a b) = max a b:=rfl
theorem Xq {a b : Int} : (if false = true then max a b else min a b) = min a b:=rfl
theorem FU {i n : Nat} (h : i < n) : dE (i : Int) n = true:=by rw [FR]; exact qQa h
theorem Qs {xs : LL} {i : Nat} (hi : i < xs.length) : xs.drop i = xs.getD i [] :: xs.drop (i + 1):=by
 rw [qYh hi,qQe,qQg hi]; rfl
end Go.Proofs.YtaghmjcfaplkiaaGreat.Eng
namespace Go.Proofs.YtaghmjcfaplkiaaGreat.Eng
open Go.RowKit
/-- A loop that gathers what it finds. -/
theorem WY {l0 : Int → LL → O} {xs : LL} {q : List U → Bool} {f : List U → List U} {R : LL → O} (GY : ∀ s,s.length ≤ xs.length → l0 (xs.length : Int) s = R s)
  (iH : ∀ i,i < xs.length → ∀ s : LL,s.length ≤ i → l0 (i : Int) s = bif q (xs.getD i []) then l0 ((i + 1 : Nat) : Int) (s ++ [f (xs.getD i [])]) else l0 ((i + 1 : Nat) : Int) s) : l0 0 [] = R ((xs.filter q).map f) :=
 (Ph (l0:=l0) (n:=xs.length) (p:=fun i=>q (xs.getD i [])) (row:=fun i=>f (xs.getD i [])) (R:=R) GY iH).trans (by rw [adQ xs [] q f])
/-- A loop that copies. -/
theorem Lx {l0 : Int → LL → O} {xs : LL} {f : List U → List U} {R : LL → O} (GY : ∀ s,s.length ≤ xs.length → l0 (xs.length : Int) s = R s)
  (iH : ∀ i,i < xs.length → ∀ s : LL,s.length ≤ i → l0 (i : Int) s = l0 ((i + 1 : Nat) : Int) (s ++ [f (xs.getD i [])])) : l0 0 [] = R (xs.map f):=by
 have:=WY (q:=fun _=>true) GY iH
 rwa [List.filter_eq_self.2 fun _ _=>rfl] at this
end Go.Proofs.YtaghmjcfaplkiaaGreat.Eng
/- half -/
