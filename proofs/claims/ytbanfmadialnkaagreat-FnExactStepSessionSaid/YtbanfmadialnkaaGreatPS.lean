/- Loops that search, count, gather: of no program. -/
import Derived.Test.YtbanfmadialnkaaGreatPM
namespace Go.Proofs.YtbanfmadialnkaaGreat.Eng
open Go.RowKit
set_option linter.unusedVariables false

theorem RR {α : Type} (xs : List α) (z : α) (q : α → Bool) : (List.range xs.length).any (fun i => q (xs.getD i z)) = xs.any q := by
 have e : (List.range xs.length).map (fun i => xs.getD i z) = xs := by
  apply List.ext_getElem?
  intro i
  rw [List.getElem?_map]
  by_cases h : i < xs.length
  ·rw [List.getElem?_range h, Option.map_some, List.getD_eq_getElem?_getD, List.getElem?_eq_getElem h]; rfl
  ·rw [List.getElem?_eq_none (by simpa using h), List.getElem?_eq_none (by omega)]; rfl
 conv => rhs; rw [← e, List.any_map]
 rfl
theorem UU {α : Type} (xs : List α) (z : α) (q : α → Bool) : (List.range xs.length).all (fun i => q (xs.getD i z)) = xs.all q := by
 have := RR xs z (fun x => !q x)
 rw [List.all_eq_not_any_not, List.all_eq_not_any_not, this]
/-- A loop that looks for something. -/
theorem Wh {l0 : Int → Option aI} {n : Nat} {p : Nat → Bool} (Es : l0 (n : Int) = rB false) (gU : ∀ i, i < n → l0 (i : Int) = bif p i then rB true else l0 ((i + 1 : Nat) : Int)) : l0 0 = rB ((List.range n).any p) := by
 have key : ∀ i, i ≤ n → l0 (i : Int) = rB ((List.range' i (n - i)).any p) := by
  refine down n ?_ ?_
  ·rw [Es, Nat.sub_self]; rfl
  ·intro i hi h
   rw [gU i hi, show n - i = (n - (i + 1)) + 1 from by omega, List.range'_succ, List.any_cons]
   cases p i
   ·rw [cond_false, h, Bool.false_or]
   ·rfl
 have := key 0 (Nat.zero_le _)
 rw [List.range_eq_range']
 simpa using this
/-- A loop that looks whether all are so. -/
theorem QT {l0 : Int → Option aI} {n : Nat} {p : Nat → Bool} {b : Bool} (Es : l0 (n : Int) = rB b) (gU : ∀ i, i < n → l0 (i : Int) = bif p i then l0 ((i + 1 : Nat) : Int) else rB false) : l0 0 = rB ((List.range n).all p && b) := by
 have key : ∀ i, i ≤ n → l0 (i : Int) = rB ((List.range' i (n - i)).all p && b) := by
  refine down n ?_ ?_
  ·rw [Es, Nat.sub_self]; simp
  ·intro i hi h
   rw [gU i hi, show n - i = (n - (i + 1)) + 1 from by omega, List.range'_succ, List.all_cons]
   cases p i
   ·rfl
   ·rw [cond_true, h, Bool.true_and]
 have := key 0 (Nat.zero_le _)
 rw [List.range_eq_range']
 simpa using this
/-- Loops that look whether all are so, whatever they give then. -/
theorem Wg {l0 : Int → Option aI} {n : Nat} {p : Nat → Bool} {R F : Option aI} (Es : l0 (n : Int) = R) (gU : ∀ i, i < n → l0 (i : Int) = bif p i then l0 ((i + 1 : Nat) : Int) else F) : l0 0 = bif (List.range n).all p then R else F := by
 have key : ∀ i, i ≤ n → l0 (i : Int) = bif (List.range' i (n - i)).all p then R else F := by
  refine down n ?_ ?_
  ·rw [Es, Nat.sub_self]; rfl
  ·intro i hi h
   rw [gU i hi, show n - i = (n - (i + 1)) + 1 from by omega, List.range'_succ, List.all_cons]
   cases p i
   ·rfl
   ·rw [cond_true, h, Bool.true_and]
 have := key 0 (Nat.zero_le _)
 rw [List.range_eq_range']
 simpa using this
theorem Wi {l0 : Int → Option aI} {n : Nat} {p : Nat → Bool} {R F : Option aI} (Es : l0 (n : Int) = R) (gU : ∀ i, i < n → l0 (i : Int) = bif p i then F else l0 ((i + 1 : Nat) : Int)) : l0 0 = bif (List.range n).any p then F else R := by
 rw [Wg (p := fun i => !p i) (R := R) (F := F) Es fun i hi => by rw [gU i hi]; cases p i <;> rfl, List.all_eq_not_any_not]
 simp only [Bool.not_not]
 cases (List.range n).any p <;> rfl
/-- Where the first one is. -/
def pos (p : Nat → Bool) : Nat → Nat → Int
 | 0, _ => -1
 | k + 1, i => if p i then (i : Int) else pos p k (i + 1)
theorem UQ (p : Nat → Bool) : ∀ (k i : Nat), decide (pos p k i ≥ 0) = (List.range' i k).any p
 | 0, i => by simp [pos]
 | k + 1, i => by
  rw [List.range'_succ, List.any_cons, pos]
  cases h : p i
  ·rw [if_neg (by simp), UQ p k (i + 1), Bool.false_or]
  ·rw [if_pos rfl, Bool.true_or]
   exact decide_eq_true (by omega)
theorem Ks {l0 : Int → Option aI} {n : Nat} {p : Nat → Bool} (Es : l0 (n : Int) = rI (-1)) (gU : ∀ i, i < n → l0 (i : Int) = bif p i then rI (i : Int) else l0 ((i + 1 : Nat) : Int)) : l0 0 = rI (pos p n 0) := by
 have key : ∀ i, i ≤ n → l0 (i : Int) = rI (pos p (n - i) i) := by
  refine down n ?_ ?_
  ·rw [Es, Nat.sub_self]; rfl
  ·intro i hi h
   rw [gU i hi, show n - i = (n - (i + 1)) + 1 from by omega, pos]
   cases p i
   ·rw [cond_false, h, if_neg (by simp)]
   ·rfl
 have := key 0 (Nat.zero_le _)
 simpa using this
/-- A loop that gathers rows. -/
theorem LP {l0 : Int → List (List U) → Option aI} {n : Nat} {p : Nat → Bool} {row : Nat → List U} {R : List (List U) → Option aI} (Es : ∀ s, s.length ≤ n → l0 (n : Int) s = R s)
  (gU : ∀ i, i < n → ∀ s : List (List U), s.length ≤ i → l0 (i : Int) s = bif p i then l0 ((i + 1 : Nat) : Int) (s ++ [row i]) else l0 ((i + 1 : Nat) : Int) s) : l0 0 [] = R (((List.range n).filter p).map row) := by
 have key : ∀ i, i ≤ n → l0 0 [] = l0 (i : Int) (((List.range i).filter p).map row) := by
  intro i
  induction i with
  | zero => exact fun _ => rfl
  | succ i ih =>
   intro hi
   have hle : (((List.range i).filter p).map row).length ≤ i := by
    rw [List.length_map]; exact Nat.le_trans (List.length_filter_le _ _) (by simp)
   rw [ih (by omega), gU i (by omega) _ hle, List.range_succ, List.filter_append, List.map_append]
   cases h : p i <;> simp [h]
 rw [key n (Nat.le_refl _)]
 exact Es _ (by rw [List.length_map]; exact Nat.le_trans (List.length_filter_le _ _) (by simp))
theorem aah {α β : Type} (xs : List α) (z : α) (q : α → Bool) (r : α → β) : ((List.range xs.length).filter (fun i => q (xs.getD i z))).map (fun i => r (xs.getD i z)) = (xs.filter q).map r := by
 have e := EP xs z
 conv => rhs; rw [← e, List.filter_map, List.map_map]
 rfl
/-- One cell is set. -/
theorem xz.set {T : bg} {ai : List CT} {us : List U} (h : xz T ai us) {i : Nat} {ct : CT} (hc : ai[i]? = some ct) {u : U} (hu : WT T ct u) : xz T ai (us.set i u) := by
 refine ⟨by rw [List.length_set]; exact h.1, fun j bn u' h1 h2 => ?_⟩
 by_cases hj : i = j
 ·subst hj
  have hl : i < us.length := by
   have := aA h2
   rwa [List.length_set] at this
  rw [List.getElem?_set_self hl] at h2
  cases h2
  rw [hc] at h1; cases h1; exact hu
 ·rw [List.getElem?_set_ne hj] at h2
  exact h.2 j bn u' h1 h2
/-- A loop that carries a state. -/
theorem XR {S : Type} {l0 : Int → S → Option aI} {n : Nat} {step : S → Nat → S} {R : S → Option aI} {I : Nat → S → Prop} (Es : ∀ s, I n s → l0 (n : Int) s = R s) (gU : ∀ i, i < n → ∀ s, I i s → I (i + 1) (step s i) ∧ l0 (i : Int) s = l0 ((i + 1 : Nat) : Int) (step s i)) {s0 : S} (h0 : I 0 s0) :
  l0 0 s0 = R ((List.range n).foldl step s0) ∧ I n ((List.range n).foldl step s0) := by
 have key : ∀ i, i ≤ n → I i ((List.range i).foldl step s0) ∧ l0 0 s0 = l0 (i : Int) ((List.range i).foldl step s0) := by
  intro i
  induction i with
  | zero => exact fun _ => ⟨h0, rfl⟩
  | succ i ih =>
   intro hi
   obtain ⟨h1, h2⟩ := ih (by omega)
   obtain ⟨h3, h4⟩ := gU i (by omega) _ h1
   rw [List.range_succ, List.foldl_append]
   exact ⟨h3, h2.trans h4⟩
 obtain ⟨h1, h2⟩ := key n (Nat.le_refl _)
 exact ⟨h2.trans (Es _ h1), h1⟩
end Go.Proofs.YtbanfmadialnkaaGreat.Eng
/- half -/
