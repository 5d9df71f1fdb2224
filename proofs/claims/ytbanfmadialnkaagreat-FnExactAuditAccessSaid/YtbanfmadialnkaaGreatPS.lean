/- Loops that search, count, gather: of no program. -/
import Derived.Test.YtbanfmadialnkaaGreatPM
namespace Go.Proofs.YtbanfmadialnkaaGreat.Eng
open Go.RowKit
set_option linter.unusedVariables false

theorem JQ {α : Type} (xs : List α) (z : α) (q : α → Bool) : (List.range xs.length).any (fun i => q (xs.getD i z)) = xs.any q := by
 have e : (List.range xs.length).map (fun i => xs.getD i z) = xs := by
  apply List.ext_getElem?
  intro i
  rw [List.getElem?_map]
  by_cases h : i < xs.length
  ·rw [List.getElem?_range h, Option.map_some, List.getD_eq_getElem?_getD, List.getElem?_eq_getElem h]; rfl
  ·rw [List.getElem?_eq_none (by simpa using h), List.getElem?_eq_none (by omega)]; rfl
 conv => rhs; rw [← e, List.any_map]
 rfl
theorem Jv {α : Type} (xs : List α) (z : α) (q : α → Bool) : (List.range xs.length).all (fun i => q (xs.getD i z)) = xs.all q := by
 have := JQ xs z (fun x => !q x)
 rw [List.all_eq_not_any_not, List.all_eq_not_any_not, this]
/-- A loop that looks for something. -/
theorem SO {l0 : Int → Option aI} {n : Nat} {p : Nat → Bool} (DV : l0 (n : Int) = rB false) (gU : ∀ i, i < n → l0 (i : Int) = bif p i then rB true else l0 ((i + 1 : Nat) : Int)) : l0 0 = rB ((List.range n).any p) := by
 have key : ∀ i, i ≤ n → l0 (i : Int) = rB ((List.range' i (n - i)).any p) := by
  refine down n ?_ ?_
  ·rw [DV, Nat.sub_self]; rfl
  ·intro i hi h
   rw [gU i hi, show n - i = (n - (i + 1)) + 1 from by omega, List.range'_succ, List.any_cons]
   cases p i
   ·rw [cond_false, h, Bool.false_or]
   ·rfl
 have := key 0 (Nat.zero_le _)
 rw [List.range_eq_range']
 simpa using this
/-- A loop that looks whether all are so. -/
theorem Ee {l0 : Int → Option aI} {n : Nat} {p : Nat → Bool} {b : Bool} (DV : l0 (n : Int) = rB b) (gU : ∀ i, i < n → l0 (i : Int) = bif p i then l0 ((i + 1 : Nat) : Int) else rB false) : l0 0 = rB ((List.range n).all p && b) := by
 have key : ∀ i, i ≤ n → l0 (i : Int) = rB ((List.range' i (n - i)).all p && b) := by
  refine down n ?_ ?_
  ·rw [DV, Nat.sub_self]; simp
  ·intro i hi h
   rw [gU i hi, show n - i = (n - (i + 1)) + 1 from by omega, List.range'_succ, List.all_cons]
   cases p i
   ·rfl
   ·rw [cond_true, h, Bool.true_and]
 have := key 0 (Nat.zero_le _)
 rw [List.range_eq_range']
 simpa using this
/-- Loops that look whether all are so, whatever they give then. -/
theorem Jy {l0 : Int → Option aI} {n : Nat} {p : Nat → Bool} {R F : Option aI} (DV : l0 (n : Int) = R) (gU : ∀ i, i < n → l0 (i : Int) = bif p i then l0 ((i + 1 : Nat) : Int) else F) : l0 0 = bif (List.range n).all p then R else F := by
 have key : ∀ i, i ≤ n → l0 (i : Int) = bif (List.range' i (n - i)).all p then R else F := by
  refine down n ?_ ?_
  ·rw [DV, Nat.sub_self]; rfl
  ·intro i hi h
   rw [gU i hi, show n - i = (n - (i + 1)) + 1 from by omega, List.range'_succ, List.all_cons]
   cases p i
   ·rfl
   ·rw [cond_true, h, Bool.true_and]
 have := key 0 (Nat.zero_le _)
 rw [List.range_eq_range']
 simpa using this
theorem Pq {l0 : Int → Option aI} {n : Nat} {p : Nat → Bool} {R F : Option aI} (DV : l0 (n : Int) = R) (gU : ∀ i, i < n → l0 (i : Int) = bif p i then F else l0 ((i + 1 : Nat) : Int)) : l0 0 = bif (List.range n).any p then F else R := by
 rw [Jy (p := fun i => !p i) (R := R) (F := F) DV fun i hi => by rw [gU i hi]; cases p i <;> rfl, List.all_eq_not_any_not]
 simp only [Bool.not_not]
 cases (List.range n).any p <;> rfl
def LX (a b : Option aI) : Prop := ∃ n, a = rI n ∧ b = rI n
/-- Two loops that carry the same. -/
theorem Vh {S : Type} {A B : S → Int → Option aI} {n : Nat} {P : Option aI → Option aI → Prop} (DV : ∀ s, P (A s n) (B s n)) (gU : ∀ i, i < n → ∀ s, P (A s (i : Int)) (B s (i : Int)) ∨ ∃ s', A s (i : Int) = A s' ((i + 1 : Nat) : Int) ∧ B s (i : Int) = B s' ((i + 1 : Nat) : Int)) : ∀ s, P (A s 0) (B s 0) := by
 have key : ∀ i, i ≤ n → ∀ s, P (A s (i : Int)) (B s (i : Int)) := by
  refine down n DV ?_
  intro i hi h s
  rcases gU i hi s with h1 | ⟨s', h1, h2⟩
  ·exact h1
  ·rw [h1, h2]; exact h s'
 exact key 0 (Nat.zero_le _)
/-- Rows in rows. -/
theorem WI {l1 : Int → List (List U) → Option aI} {K : List (List U) → Option aI} {l : List (List U)} {p : List U → Bool} {M : Nat} (DV : ∀ s, s.length ≤ M → l1 (l.length : Int) s = K s)
  (gU : ∀ i, i < l.length → ∀ s : List (List U), s.length < M → l1 (i : Int) s = bif p (l.getD i []) then l1 ((i + 1 : Nat) : Int) (s ++ [l.getD i []]) else l1 ((i + 1 : Nat) : Int) s) : ∀ s, s.length + l.length ≤ M → l1 0 s = K (s ++ l.filter p) := by
 have key : ∀ i, i ≤ l.length → ∀ s : List (List U), s.length + (l.length - i) ≤ M → l1 (i : Int) s = K (s ++ (l.drop i).filter p) := by
  refine down l.length ?_ ?_
  ·intro s hs
   rw [List.drop_length, List.filter_nil, List.append_nil]
   exact DV s (by omega)
  ·intro i hi h s hs
   have e : l.drop i = l.getD i [] :: l.drop (i + 1) := by
    rw [List.drop_eq_getElem_cons hi, List.getD_eq_getElem?_getD, List.getElem?_eq_getElem hi]; rfl
   rw [gU i hi s (by omega), e, List.filter_cons]
   cases hp : p (l.getD i [])
   ·rw [cond_false, h s (by omega), if_neg (by simp)]
   ·rw [cond_true, h _ (by simp; omega), if_pos rfl, List.append_assoc]; rfl
 intro s hs
 exact key 0 (Nat.zero_le _) s (by omega)
theorem WJ {l0 : Int → List (List U) → Option aI} {R : List (List U) → Option aI} {ts : List (List U)} {f g : List U → List (List U)} {M : Nat} (Xf : ∀ x, (f x).length ≤ (g x).length) (DV : ∀ s, s.length ≤ M → l0 (ts.length : Int) s = R s)
  (gU : ∀ i, i < ts.length → ∀ s : List (List U), s.length + (g (ts.getD i [])).length ≤ M → l0 (i : Int) s = l0 ((i + 1 : Nat) : Int) (s ++ f (ts.getD i []))) : ∀ s, s.length + (ts.flatMap g).length ≤ M → l0 0 s = R (s ++ ts.flatMap f) := by
 have key : ∀ i, i ≤ ts.length → ∀ s : List (List U), s.length + ((ts.drop i).flatMap g).length ≤ M → l0 (i : Int) s = R (s ++ (ts.drop i).flatMap f) := by
  refine down ts.length ?_ ?_
  ·intro s hs
   rw [List.drop_length, List.flatMap_nil, List.append_nil]
   exact DV s (by omega)
  ·intro i hi h s hs
   have e : ts.drop i = ts.getD i [] :: ts.drop (i + 1) := by
    rw [List.drop_eq_getElem_cons hi, List.getD_eq_getElem?_getD, List.getElem?_eq_getElem hi]; rfl
   rw [e, List.flatMap_cons, List.length_append] at hs
   have := Xf (ts.getD i [])
   rw [gU i hi s (by omega), e, List.flatMap_cons, h _ (by rw [List.length_append]; omega), List.append_assoc]
 intro s hs
 exact key 0 (Nat.zero_le _) s hs
/-- A run over elements that may fail. -/
def GI (st : List U → List (List U) → Option (List (List U))) (R : List (List U) → Option aI) (F : Option aI) : List (List U) → List (List U) → Option aI
 | [], s => R s
 | e :: es, s => match st e s with
  | some s' => GI st R F es s'
  | none => F
theorem UA {l1 : Int → List (List U) → Option aI} {st : List U → List (List U) → Option (List (List U))} {R : List (List U) → Option aI} {F : Option aI} {I : List (List U) → Prop} {l rest : List (List U)} (hI : ∀ e s s', I s → st e s = some s' → I s') (DV : ∀ s, I s → l1 (l.length : Int) s = GI st R F rest s)
  (gU : ∀ i, i < l.length → ∀ s, I s → l1 (i : Int) s = match st (l.getD i []) s with | some s' => l1 ((i + 1 : Nat) : Int) s' | none => F) : ∀ s, I s → l1 0 s = GI st R F (l ++ rest) s := by
 have key : ∀ i, i ≤ l.length → ∀ s, I s → l1 (i : Int) s = GI st R F (l.drop i ++ rest) s := by
  refine down l.length ?_ ?_
  ·intro s hs
   rw [List.drop_length, List.nil_append]
   exact DV s hs
  ·intro i hi h s hs
   have e : l.drop i = l.getD i [] :: l.drop (i + 1) := by
    rw [List.drop_eq_getElem_cons hi, List.getD_eq_getElem?_getD, List.getElem?_eq_getElem hi]; rfl
   rw [gU i hi s hs, e, List.cons_append, GI]
   cases kI : st (l.getD i []) s with
   | none => rfl
   | some s' => exact h s' (hI _ _ _ hs kI)
 exact key 0 (Nat.zero_le _)
theorem ZT {l0 : Int → List (List U) → Option aI} {st : List U → List (List U) → Option (List (List U))} {R : List (List U) → Option aI} {F : Option aI} {I : List (List U) → Prop} {ts : List (List U)} {f : List U → List (List U)} (DV : ∀ s, I s → l0 (ts.length : Int) s = R s)
  (gU : ∀ i, i < ts.length → (∀ s, I s → l0 ((i + 1 : Nat) : Int) s = GI st R F ((ts.drop (i + 1)).flatMap f) s) → ∀ s, I s → l0 (i : Int) s = GI st R F (f (ts.getD i []) ++ (ts.drop (i + 1)).flatMap f) s) : ∀ s, I s → l0 0 s = GI st R F (ts.flatMap f) s := by
 have key : ∀ i, i ≤ ts.length → ∀ s, I s → l0 (i : Int) s = GI st R F ((ts.drop i).flatMap f) s := by
  refine down ts.length ?_ ?_
  ·intro s hs
   rw [List.drop_length, List.flatMap_nil]
   exact DV s hs
  ·intro i hi h s hs
   have e : ts.drop i = ts.getD i [] :: ts.drop (i + 1) := by
    rw [List.drop_eq_getElem_cons hi, List.getD_eq_getElem?_getD, List.getElem?_eq_getElem hi]; rfl
   rw [e, List.flatMap_cons]
   exact gU i hi h s hs
 exact key 0 (Nat.zero_le _)
/-- A list of lists, laid flat. -/
def flat (ts : List (List U)) : List (List U) := ts.flatMap fun x => (x.getD 0 U0).bX
theorem Mj : ∀ ts : List (List U), (flat ts).length ≤ Da ts
 | [] => by simp [flat]
 | x :: xs => by
  have h := Mj xs
  unfold flat at h ⊢
  rw [List.flatMap_cons, List.length_append, Da]
  have : (x.getD 0 U0).bX.length ≤ Dz x := by
   cases x with
   | nil => simp [U0, U.bX]
   | cons u us =>
    simp only [List.getD_cons_zero, Dz]
    cases u with
    | CY l => have := DA l; simp only [DD, U.bX]; omega
    | _ => simp [U.bX]
  omega
/-- Where the first one is. -/
def pos (p : Nat → Bool) : Nat → Nat → Int
 | 0, _ => -1
 | k + 1, i => if p i then (i : Int) else pos p k (i + 1)
theorem Sh (p : Nat → Bool) : ∀ (k i : Nat), decide (pos p k i ≥ 0) = (List.range' i k).any p
 | 0, i => by simp [pos]
 | k + 1, i => by
  rw [List.range'_succ, List.any_cons, pos]
  cases h : p i
  ·rw [if_neg (by simp), Sh p k (i + 1), Bool.false_or]
  ·rw [if_pos rfl, Bool.true_or]
   exact decide_eq_true (by omega)
theorem Hs {l0 : Int → Option aI} {n : Nat} {p : Nat → Bool} (DV : l0 (n : Int) = rI (-1)) (gU : ∀ i, i < n → l0 (i : Int) = bif p i then rI (i : Int) else l0 ((i + 1 : Nat) : Int)) : l0 0 = rI (pos p n 0) := by
 have key : ∀ i, i ≤ n → l0 (i : Int) = rI (pos p (n - i) i) := by
  refine down n ?_ ?_
  ·rw [DV, Nat.sub_self]; rfl
  ·intro i hi h
   rw [gU i hi, show n - i = (n - (i + 1)) + 1 from by omega, pos]
   cases p i
   ·rw [cond_false, h, if_neg (by simp)]
   ·rfl
 have := key 0 (Nat.zero_le _)
 simpa using this
/-- A loop that gathers rows. -/
theorem Ks {l0 : Int → List (List U) → Option aI} {n : Nat} {p : Nat → Bool} {row : Nat → List U} {R : List (List U) → Option aI} (DV : ∀ s, s.length ≤ n → l0 (n : Int) s = R s)
  (gU : ∀ i, i < n → ∀ s : List (List U), s.length ≤ i → l0 (i : Int) s = bif p i then l0 ((i + 1 : Nat) : Int) (s ++ [row i]) else l0 ((i + 1 : Nat) : Int) s) : l0 0 [] = R (((List.range n).filter p).map row) := by
 have key : ∀ i, i ≤ n → l0 0 [] = l0 (i : Int) (((List.range i).filter p).map row) := by
  intro i
  induction i with
  | zero => exact fun _ => rfl
  | succ i ih =>
   intro hi
   have hle : (((List.range i).filter p).map row).length ≤ i := by
    rw [List.length_map]; exact Nat.le_trans (List.length_filter_le _ _) (by simp)
   rw [ih (by omega), gU i (by omega) _ hle, List.range_succ, List.filter_append, List.map_append]
   cases h : p i <;> simp [h]
 rw [key n (Nat.le_refl _)]
 exact DV _ (by rw [List.length_map]; exact Nat.le_trans (List.length_filter_le _ _) (by simp))
theorem Ud {α β : Type} (xs : List α) (z : α) (q : α → Bool) (r : α → β) : ((List.range xs.length).filter (fun i => q (xs.getD i z))).map (fun i => r (xs.getD i z)) = (xs.filter q).map r := by
 have e := Fb xs z
 conv => rhs; rw [← e, List.filter_map, List.map_map]
 rfl
/-- One cell is set. -/
theorem xz.set {T : bg} {ai : List CT} {us : List U} (h : xz T ai us) {i : Nat} {ct : CT} (hc : ai[i]? = some ct) {u : U} (hu : WT T ct u) : xz T ai (us.set i u) := by
 refine ⟨by rw [List.length_set]; exact h.1, fun j bn u' h1 h2 => ?_⟩
 by_cases hj : i = j
 ·subst hj
  have hl : i < us.length := by
   have := aA h2
   rwa [List.length_set] at this
  rw [List.getElem?_set_self hl] at h2
  cases h2
  rw [hc] at h1; cases h1; exact hu
 ·rw [List.getElem?_set_ne hj] at h2
  exact h.2 j bn u' h1 h2
/-- A loop that carries a state. -/
theorem WH {S : Type} {l0 : Int → S → Option aI} {n : Nat} {step : S → Nat → S} {R : S → Option aI} {I : Nat → S → Prop} (DV : ∀ s, I n s → l0 (n : Int) s = R s) (gU : ∀ i, i < n → ∀ s, I i s → I (i + 1) (step s i) ∧ l0 (i : Int) s = l0 ((i + 1 : Nat) : Int) (step s i)) {s0 : S} (h0 : I 0 s0) :
  l0 0 s0 = R ((List.range n).foldl step s0) ∧ I n ((List.range n).foldl step s0) := by
 have key : ∀ i, i ≤ n → I i ((List.range i).foldl step s0) ∧ l0 0 s0 = l0 (i : Int) ((List.range i).foldl step s0) := by
  intro i
  induction i with
  | zero => exact fun _ => ⟨h0, rfl⟩
  | succ i ih =>
   intro hi
   obtain ⟨h1, h2⟩ := ih (by omega)
   obtain ⟨h3, h4⟩ := gU i (by omega) _ h1
   rw [List.range_succ, List.foldl_append]
   exact ⟨h3, h2.trans h4⟩
 obtain ⟨h1, h2⟩ := key n (Nat.le_refl _)
 exact ⟨h2.trans (DV _ h1), h1⟩
end Go.Proofs.YtbanfmadialnkaaGreat.Eng
/- half -/
