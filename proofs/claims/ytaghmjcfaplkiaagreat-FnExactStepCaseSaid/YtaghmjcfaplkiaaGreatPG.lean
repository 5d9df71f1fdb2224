/- Who is reached from whom by pairs of numbers below six: by passes over all pairs, and by a queue. Of no program. -/
import Derived.Test.YtaghmjcfaplkiaaGreatPS
namespace Go.Proofs.YtaghmjcfaplkiaaGreat.Eng
open Go.RowKit
set_option linter.unusedVariables false

/-- A pair's numbers, where they are roles. -/
def XO (x : List U) : Bool := decide (0 ≤ ui x 0) && decide (ui x 0 ≤ 5) && (decide (0 ≤ ui x 1) && decide (ui x 1 ≤ 5))
def Ed (l : List (List U)) (a b : Nat) : Prop := ∃ x ∈ l, XO x = true ∧ (ui x 0).toNat = a ∧ (ui x 1).toNat = b
inductive LG (l : List (List U)) (a : Nat) : Nat → Prop
 | refl : LG l a a
 | step {b c : Nat} (h : LG l a b) (e : Ed l b c) : LG l a c
def SL (l : List (List U)) (a c : Nat) : Prop := ∃ b, LG l a b ∧ Ed l b c
theorem LG.trans {l : List (List U)} {a b c : Nat} (h : LG l a b) (k : LG l b c) : LG l a c := by
 induction k with
 | refl => exact h
 | step _ e ih => exact .step ih e
theorem SL.first {l : List (List U)} {a c : Nat} (h : SL l a c) : ∃ b, Ed l a b ∧ LG l b c := by
 obtain ⟨d, h1, h2⟩ := h
 induction h1 generalizing c with
 | refl => exact ⟨c, h2, .refl⟩
 | step h1 e ih =>
  obtain ⟨b, h3, h4⟩ := ih e
  exact ⟨b, h3, .step h4 h2⟩
/-- Marks of the numbers. -/
abbrev Mk := Nat → Bool
def closed (l : List (List U)) (f : Mk) : Prop := ∀ a b, f a = true → Ed l a b → f b = true
end Go.Proofs.YtaghmjcfaplkiaaGreat.Eng
/- half -/
