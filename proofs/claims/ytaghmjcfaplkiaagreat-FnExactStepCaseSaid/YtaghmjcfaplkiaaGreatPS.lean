/- Loops that search, count, gather: of no program. -/
import Derived.Test.YtaghmjcfaplkiaaGreatPM
namespace Go.Proofs.YtaghmjcfaplkiaaGreat.Eng
open Go.RowKit
set_option linter.unusedVariables false

theorem Rl {α : Type} (xs : List α) (z : α) (q : α → Bool) : (List.range xs.length).any (fun i => q (xs.getD i z)) = xs.any q := by
 have e : (List.range xs.length).map (fun i => xs.getD i z) = xs := by
  apply List.ext_getElem?
  intro i
  rw [List.getElem?_map]
  by_cases h : i < xs.length
  ·rw [List.getElem?_range h, Option.map_some, List.getD_eq_getElem?_getD, List.getElem?_eq_getElem h]; rfl
  ·rw [List.getElem?_eq_none (by simpa using h), List.getElem?_eq_none (by omega)]; rfl
 conv => rhs; rw [← e, List.any_map]
 rfl
theorem XS {α : Type} (xs : List α) (z : α) (q : α → Bool) : (List.range xs.length).all (fun i => q (xs.getD i z)) = xs.all q := by
 have := Rl xs z (fun x => !q x)
 rw [List.all_eq_not_any_not, List.all_eq_not_any_not, this]
/-- A loop that looks for something. -/
theorem UC {l0 : Int → Option aJ} {n : Nat} {p : Nat → Bool} (Hb : l0 (n : Int) = rB false) (iH : ∀ i, i < n → l0 (i : Int) = bif p i then rB true else l0 ((i + 1 : Nat) : Int)) : l0 0 = rB ((List.range n).any p) := by
 have key : ∀ i, i ≤ n → l0 (i : Int) = rB ((List.range' i (n - i)).any p) := by
  refine down n ?_ ?_
  ·rw [Hb, Nat.sub_self]; rfl
  ·intro i hi h
   rw [iH i hi, show n - i = (n - (i + 1)) + 1 from by omega, List.range'_succ, List.any_cons]
   cases p i
   ·rw [cond_false, h, Bool.false_or]
   ·rfl
 have := key 0 (Nat.zero_le _)
 rw [List.range_eq_range']
 simpa using this
/-- A loop that looks whether all are so. -/
theorem Nv {l0 : Int → Option aJ} {n : Nat} {p : Nat → Bool} {b : Bool} (Hb : l0 (n : Int) = rB b) (iH : ∀ i, i < n → l0 (i : Int) = bif p i then l0 ((i + 1 : Nat) : Int) else rB false) : l0 0 = rB ((List.range n).all p && b) := by
 have key : ∀ i, i ≤ n → l0 (i : Int) = rB ((List.range' i (n - i)).all p && b) := by
  refine down n ?_ ?_
  ·rw [Hb, Nat.sub_self]; simp
  ·intro i hi h
   rw [iH i hi, show n - i = (n - (i + 1)) + 1 from by omega, List.range'_succ, List.all_cons]
   cases p i
   ·rfl
   ·rw [cond_true, h, Bool.true_and]
 have := key 0 (Nat.zero_le _)
 rw [List.range_eq_range']
 simpa using this
/-- Where the first one is. -/
def pos (p : Nat → Bool) : Nat → Nat → Int
 | 0, _ => -1
 | k + 1, i => if p i then (i : Int) else pos p k (i + 1)
theorem Sk (p : Nat → Bool) : ∀ (k i : Nat), decide (pos p k i ≥ 0) = (List.range' i k).any p
 | 0, i => by simp [pos]
 | k + 1, i => by
  rw [List.range'_succ, List.any_cons, pos]
  cases h : p i
  ·rw [if_neg (by simp), Sk p k (i + 1), Bool.false_or]
  ·rw [if_pos rfl, Bool.true_or]
   exact decide_eq_true (by omega)
theorem Th {l0 : Int → Option aJ} {n : Nat} {p : Nat → Bool} (Hb : l0 (n : Int) = rI (-1)) (iH : ∀ i, i < n → l0 (i : Int) = bif p i then rI (i : Int) else l0 ((i + 1 : Nat) : Int)) : l0 0 = rI (pos p n 0) := by
 have key : ∀ i, i ≤ n → l0 (i : Int) = rI (pos p (n - i) i) := by
  refine down n ?_ ?_
  ·rw [Hb, Nat.sub_self]; rfl
  ·intro i hi h
   rw [iH i hi, show n - i = (n - (i + 1)) + 1 from by omega, pos]
   cases p i
   ·rw [cond_false, h, if_neg (by simp)]
   ·rfl
 have := key 0 (Nat.zero_le _)
 simpa using this
/-- A loop that gathers rows. -/
theorem QI {l0 : Int → List (List U) → Option aJ} {n : Nat} {p : Nat → Bool} {row : Nat → List U} {R : List (List U) → Option aJ} (Hb : ∀ s, s.length ≤ n → l0 (n : Int) s = R s)
  (iH : ∀ i, i < n → ∀ s : List (List U), s.length ≤ i → l0 (i : Int) s = bif p i then l0 ((i + 1 : Nat) : Int) (s ++ [row i]) else l0 ((i + 1 : Nat) : Int) s) : l0 0 [] = R (((List.range n).filter p).map row) := by
 have key : ∀ i, i ≤ n → l0 0 [] = l0 (i : Int) (((List.range i).filter p).map row) := by
  intro i
  induction i with
  | zero => exact fun _ => rfl
  | succ i ih =>
   intro hi
   have hle : (((List.range i).filter p).map row).length ≤ i := by
    rw [List.length_map]; exact Nat.le_trans (List.length_filter_le _ _) (by simp)
   rw [ih (by omega), iH i (by omega) _ hle, List.range_succ, List.filter_append, List.map_append]
   cases h : p i <;> simp [h]
 rw [key n (Nat.le_refl _)]
 exact Hb _ (by rw [List.length_map]; exact Nat.le_trans (List.length_filter_le _ _) (by simp))
theorem Sn {α β : Type} (xs : List α) (z : α) (q : α → Bool) (r : α → β) : ((List.range xs.length).filter (fun i => q (xs.getD i z))).map (fun i => r (xs.getD i z)) = (xs.filter q).map r := by
 have e := Hh xs z
 conv => rhs; rw [← e, List.filter_map, List.map_map]
 rfl
/-- One cell is set. -/
theorem zx.set {T : bl} {ab : List CT} {us : List U} (h : zx T ab us) {i : Nat} {ct : CT} (hc : ab[i]? = some ct) {u : U} (hu : WT T ct u) : zx T ab (us.set i u) := by
 refine ⟨by rw [List.length_set]; exact h.1, fun j br u' h1 h2 => ?_⟩
 by_cases hj : i = j
 ·subst hj
  have hl : i < us.length := by
   have := aA h2
   rwa [List.length_set] at this
  rw [List.getElem?_set_self hl] at h2
  cases h2
  rw [hc] at h1; cases h1; exact hu
 ·rw [List.getElem?_set_ne hj] at h2
  exact h.2 j br u' h1 h2
end Go.Proofs.YtaghmjcfaplkiaaGreat.Eng
/- half -/
