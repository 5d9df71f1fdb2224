/- Normal forms of what functions give: of no program. -/
import Derived.Test.YtlkcpabdpmenpaaPS
namespace Go.Proofs.Ytlkcpabdpmenpaa.Eng
open Go.RowKit
set_option linter.unusedVariables false

theorem q0 {f : Ret → O} {r : Ret} : (some r : O).bind f = f r := rfl
theorem qb {b : Bool} : (⟨[[.bool b]], []⟩ : Ret).b 0 = b := rfl
theorem qi {n : Int} : (⟨[[.int n]], []⟩ : Ret).i 0 = n := rfl
theorem ql {xs : LL} : (⟨[[.lst xs]], []⟩ : Ret).l 0 = xs := rfl
theorem qs {s : ByteArray} : (⟨[[.str s]], []⟩ : Ret).t 0 = s := rfl
/-- Truth values, from all ways. -/
theorem cB {a x y : Bool} : (bif a then rB x else rB y) = rB (bif a then x else y) := by cases a <;> rfl
theorem cI {a : Bool} {x y : Int} : (bif a then rI x else rI y) = rI (bif a then x else y) := by cases a <;> rfl
/-- Ways that go on, and ways that end. -/
theorem e1 {a p : Bool} {X F : O} : (bif a then F else (bif p then X else F)) = bif (!a && p) then X else F := by cases a <;> cases p <;> rfl
theorem e2 {a p : Bool} {X F : O} : (bif a then (bif p then X else F) else F) = bif (a && p) then X else F := by cases a <;> cases p <;> rfl
theorem e3 {a p : Bool} {X F : O} : (bif a then (bif p then X else F) else X) = bif (!a || p) then X else F := by cases a <;> cases p <;> rfl
theorem e4 {a p : Bool} {X F : O} : (bif a then X else (bif p then X else F)) = bif (a || p) then X else F := by cases a <;> cases p <;> rfl
theorem e5 {a b : Bool} {X : O} : (bif a then rB b else X) = bif !a then X else rB b := by cases a <;> rfl
theorem cnot {α : Type} {a : Bool} {x y : α} : (bif !a then x else y) = bif a then y else x := by cases a <;> rfl
theorem cff {a x : Bool} : (bif a then false else x) = (!a && x) := by cases a <;> rfl
theorem cft {a x : Bool} : (bif a then true else x) = (a || x) := by cases a <;> rfl
theorem ctf {a x : Bool} : (bif a then x else false) = (a && x) := by cases a <;> rfl
theorem ctt {a x : Bool} : (bif a then x else true) = (!a || x) := by cases a <;> rfl
theorem rB_inj {a b : Bool} (h : a = b) : rB a = rB b := by rw [h]
theorem rI_inj {a b : Int} (h : a = b) : rI a = rI b := by rw [h]
theorem grd_true {b : Bool} {x : O} (h : b = true) : grd b x = x := by rw [h]; rfl
end Go.Proofs.Ytlkcpabdpmenpaa.Eng
namespace Go.Proofs.Ytlkcpabdpmenpaa.Eng
open Go.RowKit
/-- A loop that folds. -/
theorem foldL {S : Type} {l0 : S → Int → O} {xs : LL} {st : S → List U → S} {R : S → O} (hend : ∀ s, l0 s (xs.length : Int) = R s) (hstep : ∀ i, i < xs.length → ∀ s, l0 s (i : Int) = l0 (st s (xs.getD i [])) ((i + 1 : Nat) : Int)) : ∀ s, l0 s 0 = R (xs.foldl st s) := by
  have key : ∀ i, i ≤ xs.length → ∀ s, l0 s (i : Int) = R ((xs.drop i).foldl st s) := by
    refine down xs.length ?_ ?_
    · intro s; rw [hend, List.drop_length]; rfl
    · intro i hi h s
      have e : xs.drop i = xs.getD i [] :: xs.drop (i + 1) := by
        rw [List.drop_eq_getElem_cons hi, List.getD_eq_getElem?_getD, List.getElem?_eq_getElem hi]; rfl
      rw [hstep i hi s, h, e]; rfl
  intro s
  exact key 0 (Nat.zero_le _) s
theorem w64_id {n : Int} (h : -9223372036854775808 ≤ n) (h' : n ≤ 9223372036854775807) : w64 n = n := wrap_id h h'
theorem w64_nat {n : Nat} (h : n ≤ 9223372036854775806) : w64 ((n : Int) + 1) = ((n + 1 : Nat) : Int) := wrap_nat h
theorem gt_ {x : O} : grd true x = x := rfl
theorem mxE {a b : Int} : (if true = true then max a b else min a b) = max a b := rfl
theorem mnE {a b : Int} : (if false = true then max a b else min a b) = min a b := rfl
theorem in_nat {i n : Nat} (h : i < n) : inRange (i : Int) n = true := by rw [inRange_nat]; exact decide_eq_true h
theorem drop_get {xs : LL} {i : Nat} (hi : i < xs.length) : xs.drop i = xs.getD i [] :: xs.drop (i + 1) := by
  rw [List.drop_eq_getElem_cons hi, List.getD_eq_getElem?_getD, List.getElem?_eq_getElem hi]; rfl
end Go.Proofs.Ytlkcpabdpmenpaa.Eng
namespace Go.Proofs.Ytlkcpabdpmenpaa.Eng
open Go.RowKit
/-- A loop that gathers what it finds. -/
theorem gatherL {l0 : Int → LL → O} {xs : LL} {q : List U → Bool} {f : List U → List U} {R : LL → O} (hend : ∀ s, s.length ≤ xs.length → l0 (xs.length : Int) s = R s)
    (hstep : ∀ i, i < xs.length → ∀ s : LL, s.length ≤ i → l0 (i : Int) s = bif q (xs.getD i []) then l0 ((i + 1 : Nat) : Int) (s ++ [f (xs.getD i [])]) else l0 ((i + 1 : Nat) : Int) s) : l0 0 [] = R ((xs.filter q).map f) :=
  (gather_loop (l0 := l0) (n := xs.length) (p := fun i => q (xs.getD i [])) (row := fun i => f (xs.getD i [])) (R := R) hend hstep).trans (by rw [range_filter xs [] q f])
/-- A loop that copies. -/
theorem copyL {l0 : Int → LL → O} {xs : LL} {f : List U → List U} {R : LL → O} (hend : ∀ s, s.length ≤ xs.length → l0 (xs.length : Int) s = R s)
    (hstep : ∀ i, i < xs.length → ∀ s : LL, s.length ≤ i → l0 (i : Int) s = l0 ((i + 1 : Nat) : Int) (s ++ [f (xs.getD i [])])) : l0 0 [] = R (xs.map f) := by
  have := gatherL (q := fun _ => true) hend hstep
  rwa [List.filter_eq_self.2 fun _ _ => rfl] at this
end Go.Proofs.Ytlkcpabdpmenpaa.Eng
