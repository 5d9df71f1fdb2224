/- Normal forms of what functions give: of no program. -/
import Derived.Test.YtbanfmadialnkaaGreatPS
namespace Go.Proofs.YtbanfmadialnkaaGreat.Eng
open Go.RowKit
set_option linter.unusedVariables false

theorem q0 {f : aI → O} {r : aI} : (some r : O).bind f = f r := rfl
theorem qb {b : Bool} : (⟨[[.bool b]], []⟩ : aI).b 0 = b := rfl
theorem qi {n : Int} : (⟨[[.int n]], []⟩ : aI).i 0 = n := rfl
theorem ql {xs : LL} : (⟨[[.lst xs]], []⟩ : aI).l 0 = xs := rfl
/-- Truth values, from all ways. -/
theorem cB {a x y : Bool} : (bif a then rB x else rB y) = rB (bif a then x else y) := by cases a <;> rfl
theorem cI {a : Bool} {x y : Int} : (bif a then rI x else rI y) = rI (bif a then x else y) := by cases a <;> rfl
/-- Ways that go on, and ways that end. -/
theorem e1 {a p : Bool} {X F : O} : (bif a then F else (bif p then X else F)) = bif (!a && p) then X else F := by cases a <;> cases p <;> rfl
theorem e2 {a p : Bool} {X F : O} : (bif a then (bif p then X else F) else F) = bif (a && p) then X else F := by cases a <;> cases p <;> rfl
theorem e3 {a p : Bool} {X F : O} : (bif a then (bif p then X else F) else X) = bif (!a || p) then X else F := by cases a <;> cases p <;> rfl
theorem LN {α : Type} {a : Bool} {x y : α} : (bif !a then x else y) = bif a then y else x := by cases a <;> rfl
theorem TR {a x : Bool} : (bif a then true else x) = (a || x) := by cases a <;> rfl
theorem Er {a x : Bool} : (bif a then x else false) = (a && x) := by cases a <;> rfl
theorem Mx {b : Bool} {x : O} (h : b = true) : Cu b x = x := by rw [h]; rfl
end Go.Proofs.YtbanfmadialnkaaGreat.Eng
namespace Go.Proofs.YtbanfmadialnkaaGreat.Eng
open Go.RowKit
/-- A loop that folds. -/
theorem LO {S : Type} {l0 : S → Int → O} {xs : LL} {st : S → List U → S} {R : S → O} (Es : ∀ s, l0 s (xs.length : Int) = R s) (gU : ∀ i, i < xs.length → ∀ s, l0 s (i : Int) = l0 (st s (xs.getD i [])) ((i + 1 : Nat) : Int)) : ∀ s, l0 s 0 = R (xs.foldl st s) := by
 have key : ∀ i, i ≤ xs.length → ∀ s, l0 s (i : Int) = R ((xs.drop i).foldl st s) := by
  refine down xs.length ?_ ?_
  ·intro s; rw [Es, List.drop_length]; rfl
  ·intro i hi h s
   have e : xs.drop i = xs.getD i [] :: xs.drop (i + 1) := by
    rw [List.drop_eq_getElem_cons hi, List.getD_eq_getElem?_getD, List.getElem?_eq_getElem hi]; rfl
   rw [gU i hi s, h, e]; rfl
 intro s
 exact key 0 (Nat.zero_le _) s
theorem Ij {n : Int} (h : -9223372036854775808 ≤ n) (h' : n ≤ 9223372036854775807) : CX n = n := DT h h'
theorem DJ {n : Nat} (h : n ≤ 9223372036854775806) : CX ((n : Int) + 1) = ((n + 1 : Nat) : Int) := Dr h
theorem Gw {x : O} : Cu true x = x := rfl
theorem ZZ {a b : Int} : (if true = true then max a b else min a b) = max a b := rfl
theorem UI {a b : Int} : (if false = true then max a b else min a b) = min a b := rfl
theorem DE {i n : Nat} (h : i < n) : dk (i : Int) n = true := by rw [Dm]; exact decide_eq_true h
theorem Mt {xs : LL} {i : Nat} (hi : i < xs.length) : xs.drop i = xs.getD i [] :: xs.drop (i + 1) := by
 rw [List.drop_eq_getElem_cons hi, List.getD_eq_getElem?_getD, List.getElem?_eq_getElem hi]; rfl
end Go.Proofs.YtbanfmadialnkaaGreat.Eng
namespace Go.Proofs.YtbanfmadialnkaaGreat.Eng
open Go.RowKit
/-- A loop that gathers what it finds. -/
theorem SH {l0 : Int → LL → O} {xs : LL} {q : List U → Bool} {f : List U → List U} {R : LL → O} (Es : ∀ s, s.length ≤ xs.length → l0 (xs.length : Int) s = R s)
  (gU : ∀ i, i < xs.length → ∀ s : LL, s.length ≤ i → l0 (i : Int) s = bif q (xs.getD i []) then l0 ((i + 1 : Nat) : Int) (s ++ [f (xs.getD i [])]) else l0 ((i + 1 : Nat) : Int) s) : l0 0 [] = R ((xs.filter q).map f) :=
 (LP (l0 := l0) (n := xs.length) (p := fun i => q (xs.getD i [])) (row := fun i => f (xs.getD i [])) (R := R) Es gU).trans (by rw [aah xs [] q f])
/-- A loop that copies. -/
theorem IH {l0 : Int → LL → O} {xs : LL} {f : List U → List U} {R : LL → O} (Es : ∀ s, s.length ≤ xs.length → l0 (xs.length : Int) s = R s)
  (gU : ∀ i, i < xs.length → ∀ s : LL, s.length ≤ i → l0 (i : Int) s = l0 ((i + 1 : Nat) : Int) (s ++ [f (xs.getD i [])])) : l0 0 [] = R (xs.map f) := by
 have := SH (q := fun _ => true) Es gU
 rwa [List.filter_eq_self.2 fun _ _ => rfl] at this
end Go.Proofs.YtbanfmadialnkaaGreat.Eng
/- half -/
