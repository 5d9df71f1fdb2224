/- Normal forms of what functions give: of no program. -/
import Derived.Test.YteahcmobjegpnaaPS
namespace Go.Proofs.Yteahcmobjegpnaa.Eng
open Go.RowKit
set_option linter.unusedVariables false

theorem q0 {f : Ret → O} {r : Ret} : (some r : O).bind f = f r := rfl
theorem qb {b : Bool} : (⟨[[.bool b]], []⟩ : Ret).b 0 = b := rfl
theorem ql {xs : LL} : (⟨[[.lst xs]], []⟩ : Ret).l 0 = xs := rfl
/-- Truth values, from all ways. -/
theorem cB {a x y : Bool} : (bif a then rB x else rB y) = rB (bif a then x else y) := by cases a <;> rfl
/-- Ways that go on, and ways that end. -/
theorem e1 {a p : Bool} {X F : O} : (bif a then F else (bif p then X else F)) = bif (!a && p) then X else F := by cases a <;> cases p <;> rfl
theorem e2 {a p : Bool} {X F : O} : (bif a then (bif p then X else F) else F) = bif (a && p) then X else F := by cases a <;> cases p <;> rfl
theorem e3 {a p : Bool} {X F : O} : (bif a then (bif p then X else F) else X) = bif (!a || p) then X else F := by cases a <;> cases p <;> rfl
theorem ctf {a x : Bool} : (bif a then x else false) = (a && x) := by cases a <;> rfl
theorem grd_true {b : Bool} {x : O} (h : b = true) : grd b x = x := by rw [h]; rfl
end Go.Proofs.Yteahcmobjegpnaa.Eng
namespace Go.Proofs.Yteahcmobjegpnaa.Eng
open Go.RowKit
theorem w64_id {n : Int} (h : -9223372036854775808 ≤ n) (h' : n ≤ 9223372036854775807) : w64 n = n := wrap_id h h'
theorem w64_nat {n : Nat} (h : n ≤ 9223372036854775806) : w64 ((n : Int) + 1) = ((n + 1 : Nat) : Int) := wrap_nat h
theorem gt_ {x : O} : grd true x = x := rfl
theorem in_nat {i n : Nat} (h : i < n) : inRange (i : Int) n = true := by rw [inRange_nat]; exact decide_eq_true h
end Go.Proofs.Yteahcmobjegpnaa.Eng
namespace Go.Proofs.Yteahcmobjegpnaa.Eng
open Go.RowKit
end Go.Proofs.Yteahcmobjegpnaa.Eng
