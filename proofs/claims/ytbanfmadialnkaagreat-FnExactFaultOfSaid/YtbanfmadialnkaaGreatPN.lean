/- Normal forms of what functions give: of no program. -/
import Derived.Test.YtbanfmadialnkaaGreatPS
namespace Go.Proofs.YtbanfmadialnkaaGreat.Eng
open Go.RowKit
set_option linter.unusedVariables false

theorem q0 {f : aa → O} {r : aa} : (some r : O).bind f = f r := rfl
theorem qb {b : Bool} : (⟨[[.bool b]], []⟩ : aa).b 0 = b := rfl
theorem qi {n : Int} : (⟨[[.int n]], []⟩ : aa).i 0 = n := rfl
theorem ql {xs : LL} : (⟨[[.af xs]], []⟩ : aa).l 0 = xs := rfl
/-- Truth values, from all ways. -/
theorem cB {a x y : Bool} : (bif a then rB x else rB y) = rB (bif a then x else y) := by cases a <;> rfl
theorem cI {a : Bool} {x y : Int} : (bif a then rI x else rI y) = rI (bif a then x else y) := by cases a <;> rfl
/-- Ways that go on, and ways that end. -/
theorem e1 {a p : Bool} {X F : O} : (bif a then F else (bif p then X else F)) = bif (!a && p) then X else F := by cases a <;> cases p <;> rfl
theorem e2 {a p : Bool} {X F : O} : (bif a then (bif p then X else F) else F) = bif (a && p) then X else F := by cases a <;> cases p <;> rfl
theorem e3 {a p : Bool} {X F : O} : (bif a then (bif p then X else F) else X) = bif (!a || p) then X else F := by cases a <;> cases p <;> rfl
theorem e4 {a p : Bool} {X F : O} : (bif a then X else (bif p then X else F)) = bif (a || p) then X else F := by cases a <;> cases p <;> rfl
theorem gL {α : Type} {a : Bool} {x y : α} : (bif !a then x else y) = bif a then y else x := by cases a <;> rfl
theorem KN {a x : Bool} : (bif a then true else x) = (a || x) := by cases a <;> rfl
theorem cJ {a x : Bool} : (bif a then x else false) = (a && x) := by cases a <;> rfl
theorem Su {a b : Bool} (h : a = b) : rB a = rB b := by rw [h]
theorem tS {b : Bool} {x : O} (h : b = true) : ae b x = x := by rw [h]; rfl
end Go.Proofs.YtbanfmadialnkaaGreat.Eng
namespace Go.Proofs.YtbanfmadialnkaaGreat.Eng
open Go.RowKit
/-- A loop that folds. -/
theorem ox {S : Type} {l0 : S → Int → O} {xs : LL} {st : S → List U → S} {R : S → O} (cT : ∀ s, l0 s (xs.length : Int) = R s) (ck : ∀ i, i < xs.length → ∀ s, l0 s (i : Int) = l0 (st s (xs.getD i [])) ((i + 1 : Nat) : Int)) : ∀ s, l0 s 0 = R (xs.foldl st s) := by
 have key : ∀ i, i ≤ xs.length → ∀ s, l0 s (i : Int) = R ((xs.drop i).foldl st s) := by
  refine down xs.length ?_ ?_
  ·intro s; rw [cT, List.drop_length]; rfl
  ·intro i hi h s
   have e : xs.drop i = xs.getD i [] :: xs.drop (i + 1) := by
    rw [List.drop_eq_getElem_cons hi, List.getD_eq_getElem?_getD, List.getElem?_eq_getElem hi]; rfl
   rw [ck i hi s, h, e]; rfl
 intro s
 exact key 0 (Nat.zero_le _) s
theorem mh {n : Int} (h : -9223372036854775808 ≤ n) (h' : n ≤ 9223372036854775807) : ab n = n := sX h h'
theorem bH {n : Nat} (h : n ≤ 9223372036854775806) : ab ((n : Int) + 1) = ((n + 1 : Nat) : Int) := bt h
theorem gd {x : O} : ae true x = x := rfl
theorem HD {a b : Int} : (if true = true then max a b else min a b) = max a b := rfl
theorem Sv {a b : Int} : (if false = true then max a b else min a b) = min a b := rfl
theorem bo {i n : Nat} (h : i < n) : an (i : Int) n = true := by rw [bg]; exact decide_eq_true h
theorem pX {xs : LL} {i : Nat} (hi : i < xs.length) : xs.drop i = xs.getD i [] :: xs.drop (i + 1) := by
 rw [List.drop_eq_getElem_cons hi, List.getD_eq_getElem?_getD, List.getElem?_eq_getElem hi]; rfl
end Go.Proofs.YtbanfmadialnkaaGreat.Eng
namespace Go.Proofs.YtbanfmadialnkaaGreat.Eng
open Go.RowKit
end Go.Proofs.YtbanfmadialnkaaGreat.Eng
/- half -/
