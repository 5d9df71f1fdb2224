/- Loops that search, count, gather: of no program. -/
import Derived.Test.YtlkcpabdpmenpaaPM
namespace Go.Proofs.Ytlkcpabdpmenpaa.Eng
open Go.RowKit
set_option linter.unusedVariables false

theorem range_any {α : Type} (xs : List α) (z : α) (q : α → Bool) : (List.range xs.length).any (fun i => q (xs.getD i z)) = xs.any q := by
  have e : (List.range xs.length).map (fun i => xs.getD i z) = xs := by
    apply List.ext_getElem?
    intro i
    rw [List.getElem?_map]
    by_cases h : i < xs.length
    · rw [List.getElem?_range h, Option.map_some, List.getD_eq_getElem?_getD, List.getElem?_eq_getElem h]; rfl
    · rw [List.getElem?_eq_none (by simpa using h), List.getElem?_eq_none (by omega)]; rfl
  conv => rhs; rw [← e, List.any_map]
  rfl
theorem range_all {α : Type} (xs : List α) (z : α) (q : α → Bool) : (List.range xs.length).all (fun i => q (xs.getD i z)) = xs.all q := by
  have := range_any xs z (fun x => !q x)
  rw [List.all_eq_not_any_not, List.all_eq_not_any_not, this]
/-- A loop that looks for something. -/
theorem any_loop {l0 : Int → Option Ret} {n : Nat} {p : Nat → Bool} (hend : l0 (n : Int) = rB false) (hstep : ∀ i, i < n → l0 (i : Int) = bif p i then rB true else l0 ((i + 1 : Nat) : Int)) : l0 0 = rB ((List.range n).any p) := by
  have key : ∀ i, i ≤ n → l0 (i : Int) = rB ((List.range' i (n - i)).any p) := by
    refine down n ?_ ?_
    · rw [hend, Nat.sub_self]; rfl
    · intro i hi h
      rw [hstep i hi, show n - i = (n - (i + 1)) + 1 from by omega, List.range'_succ, List.any_cons]
      cases p i
      · rw [cond_false, h, Bool.false_or]
      · rfl
  have := key 0 (Nat.zero_le _)
  rw [List.range_eq_range']
  simpa using this
/-- A loop that looks whether all are so. -/
theorem all_loop2 {l0 : Int → Option Ret} {n : Nat} {p : Nat → Bool} {b : Bool} (hend : l0 (n : Int) = rB b) (hstep : ∀ i, i < n → l0 (i : Int) = bif p i then l0 ((i + 1 : Nat) : Int) else rB false) : l0 0 = rB ((List.range n).all p && b) := by
  have key : ∀ i, i ≤ n → l0 (i : Int) = rB ((List.range' i (n - i)).all p && b) := by
    refine down n ?_ ?_
    · rw [hend, Nat.sub_self]; simp
    · intro i hi h
      rw [hstep i hi, show n - i = (n - (i + 1)) + 1 from by omega, List.range'_succ, List.all_cons]
      cases p i
      · rfl
      · rw [cond_true, h, Bool.true_and]
  have := key 0 (Nat.zero_le _)
  rw [List.range_eq_range']
  simpa using this
/-- Loops that look whether all are so, whatever they give then. -/
theorem all_loop3 {l0 : Int → Option Ret} {n : Nat} {p : Nat → Bool} {R F : Option Ret} (hend : l0 (n : Int) = R) (hstep : ∀ i, i < n → l0 (i : Int) = bif p i then l0 ((i + 1 : Nat) : Int) else F) : l0 0 = bif (List.range n).all p then R else F := by
  have key : ∀ i, i ≤ n → l0 (i : Int) = bif (List.range' i (n - i)).all p then R else F := by
    refine down n ?_ ?_
    · rw [hend, Nat.sub_self]; rfl
    · intro i hi h
      rw [hstep i hi, show n - i = (n - (i + 1)) + 1 from by omega, List.range'_succ, List.all_cons]
      cases p i
      · rfl
      · rw [cond_true, h, Bool.true_and]
  have := key 0 (Nat.zero_le _)
  rw [List.range_eq_range']
  simpa using this
theorem any_loop3 {l0 : Int → Option Ret} {n : Nat} {p : Nat → Bool} {R F : Option Ret} (hend : l0 (n : Int) = R) (hstep : ∀ i, i < n → l0 (i : Int) = bif p i then F else l0 ((i + 1 : Nat) : Int)) : l0 0 = bif (List.range n).any p then F else R := by
  rw [all_loop3 (p := fun i => !p i) (R := R) (F := F) hend fun i hi => by rw [hstep i hi]; cases p i <;> rfl, List.all_eq_not_any_not]
  simp only [Bool.not_not]
  cases (List.range n).any p <;> rfl
/-- Two results of the same. -/
def Same (a b : Option Ret) : Prop := ∃ r, a = some r ∧ b = some r
def SameI (a b : Option Ret) : Prop := ∃ n, a = rI n ∧ b = rI n
/-- Two loops that carry the same. -/
theorem twin_loop {S : Type} {A B : S → Int → Option Ret} {n : Nat} {P : Option Ret → Option Ret → Prop} (hend : ∀ s, P (A s n) (B s n)) (hstep : ∀ i, i < n → ∀ s, P (A s (i : Int)) (B s (i : Int)) ∨ ∃ s', A s (i : Int) = A s' ((i + 1 : Nat) : Int) ∧ B s (i : Int) = B s' ((i + 1 : Nat) : Int)) : ∀ s, P (A s 0) (B s 0) := by
  have key : ∀ i, i ≤ n → ∀ s, P (A s (i : Int)) (B s (i : Int)) := by
    refine down n hend ?_
    intro i hi h s
    rcases hstep i hi s with h1 | ⟨s', h1, h2⟩
    · exact h1
    · rw [h1, h2]; exact h s'
  exact key 0 (Nat.zero_le _)
/-- Rows in rows. -/
theorem gather_in {l1 : Int → List (List U) → Option Ret} {K : List (List U) → Option Ret} {l : List (List U)} {p : List U → Bool} {M : Nat} (hend : ∀ s, s.length ≤ M → l1 (l.length : Int) s = K s)
    (hstep : ∀ i, i < l.length → ∀ s : List (List U), s.length < M → l1 (i : Int) s = bif p (l.getD i []) then l1 ((i + 1 : Nat) : Int) (s ++ [l.getD i []]) else l1 ((i + 1 : Nat) : Int) s) : ∀ s, s.length + l.length ≤ M → l1 0 s = K (s ++ l.filter p) := by
  have key : ∀ i, i ≤ l.length → ∀ s : List (List U), s.length + (l.length - i) ≤ M → l1 (i : Int) s = K (s ++ (l.drop i).filter p) := by
    refine down l.length ?_ ?_
    · intro s hs
      rw [List.drop_length, List.filter_nil, List.append_nil]
      exact hend s (by omega)
    · intro i hi h s hs
      have e : l.drop i = l.getD i [] :: l.drop (i + 1) := by
        rw [List.drop_eq_getElem_cons hi, List.getD_eq_getElem?_getD, List.getElem?_eq_getElem hi]; rfl
      rw [hstep i hi s (by omega), e, List.filter_cons]
      cases hp : p (l.getD i [])
      · rw [cond_false, h s (by omega), if_neg (by simp)]
      · rw [cond_true, h _ (by simp; omega), if_pos rfl, List.append_assoc]; rfl
  intro s hs
  exact key 0 (Nat.zero_le _) s (by omega)
theorem gather_out {l0 : Int → List (List U) → Option Ret} {R : List (List U) → Option Ret} {ts : List (List U)} {f g : List U → List (List U)} {M : Nat} (hfg : ∀ x, (f x).length ≤ (g x).length) (hend : ∀ s, s.length ≤ M → l0 (ts.length : Int) s = R s)
    (hstep : ∀ i, i < ts.length → ∀ s : List (List U), s.length + (g (ts.getD i [])).length ≤ M → l0 (i : Int) s = l0 ((i + 1 : Nat) : Int) (s ++ f (ts.getD i []))) : ∀ s, s.length + (ts.flatMap g).length ≤ M → l0 0 s = R (s ++ ts.flatMap f) := by
  have key : ∀ i, i ≤ ts.length → ∀ s : List (List U), s.length + ((ts.drop i).flatMap g).length ≤ M → l0 (i : Int) s = R (s ++ (ts.drop i).flatMap f) := by
    refine down ts.length ?_ ?_
    · intro s hs
      rw [List.drop_length, List.flatMap_nil, List.append_nil]
      exact hend s (by omega)
    · intro i hi h s hs
      have e : ts.drop i = ts.getD i [] :: ts.drop (i + 1) := by
        rw [List.drop_eq_getElem_cons hi, List.getD_eq_getElem?_getD, List.getElem?_eq_getElem hi]; rfl
      rw [e, List.flatMap_cons, List.length_append] at hs
      have := hfg (ts.getD i [])
      rw [hstep i hi s (by omega), e, List.flatMap_cons, h _ (by rw [List.length_append]; omega), List.append_assoc]
  intro s hs
  exact key 0 (Nat.zero_le _) s hs
/-- A run over elements that may fail. -/
def runL (st : List U → List (List U) → Option (List (List U))) (R : List (List U) → Option Ret) (F : Option Ret) : List (List U) → List (List U) → Option Ret
  | [], s => R s
  | e :: es, s => match st e s with
    | some s' => runL st R F es s'
    | none => F
theorem runThru {l1 : Int → List (List U) → Option Ret} {st : List U → List (List U) → Option (List (List U))} {R : List (List U) → Option Ret} {F : Option Ret} {I : List (List U) → Prop} {l rest : List (List U)} (hI : ∀ e s s', I s → st e s = some s' → I s') (hend : ∀ s, I s → l1 (l.length : Int) s = runL st R F rest s)
    (hstep : ∀ i, i < l.length → ∀ s, I s → l1 (i : Int) s = match st (l.getD i []) s with | some s' => l1 ((i + 1 : Nat) : Int) s' | none => F) : ∀ s, I s → l1 0 s = runL st R F (l ++ rest) s := by
  have key : ∀ i, i ≤ l.length → ∀ s, I s → l1 (i : Int) s = runL st R F (l.drop i ++ rest) s := by
    refine down l.length ?_ ?_
    · intro s hs
      rw [List.drop_length, List.nil_append]
      exact hend s hs
    · intro i hi h s hs
      have e : l.drop i = l.getD i [] :: l.drop (i + 1) := by
        rw [List.drop_eq_getElem_cons hi, List.getD_eq_getElem?_getD, List.getElem?_eq_getElem hi]; rfl
      rw [hstep i hi s hs, e, List.cons_append, runL]
      cases hst : st (l.getD i []) s with
      | none => rfl
      | some s' => exact h s' (hI _ _ _ hs hst)
  exact key 0 (Nat.zero_le _)
theorem run_out {l0 : Int → List (List U) → Option Ret} {st : List U → List (List U) → Option (List (List U))} {R : List (List U) → Option Ret} {F : Option Ret} {I : List (List U) → Prop} {ts : List (List U)} {f : List U → List (List U)} (hend : ∀ s, I s → l0 (ts.length : Int) s = R s)
    (hstep : ∀ i, i < ts.length → (∀ s, I s → l0 ((i + 1 : Nat) : Int) s = runL st R F ((ts.drop (i + 1)).flatMap f) s) → ∀ s, I s → l0 (i : Int) s = runL st R F (f (ts.getD i []) ++ (ts.drop (i + 1)).flatMap f) s) : ∀ s, I s → l0 0 s = runL st R F (ts.flatMap f) s := by
  have key : ∀ i, i ≤ ts.length → ∀ s, I s → l0 (i : Int) s = runL st R F ((ts.drop i).flatMap f) s := by
    refine down ts.length ?_ ?_
    · intro s hs
      rw [List.drop_length, List.flatMap_nil]
      exact hend s hs
    · intro i hi h s hs
      have e : ts.drop i = ts.getD i [] :: ts.drop (i + 1) := by
        rw [List.drop_eq_getElem_cons hi, List.getD_eq_getElem?_getD, List.getElem?_eq_getElem hi]; rfl
      rw [e, List.flatMap_cons]
      exact hstep i hi h s hs
  exact key 0 (Nat.zero_le _)
/-- A list of lists, laid flat. -/
def flat (ts : List (List U)) : List (List U) := ts.flatMap fun x => (x.getD 0 U0).toLst
theorem flat_le : ∀ ts : List (List U), (flat ts).length ≤ cntRs ts
  | [] => by simp [flat]
  | x :: xs => by
    have h := flat_le xs
    unfold flat at h ⊢
    rw [List.flatMap_cons, List.length_append, cntRs]
    have : (x.getD 0 U0).toLst.length ≤ cntR x := by
      cases x with
      | nil => simp [U0, U.toLst]
      | cons u us =>
        simp only [List.getD_cons_zero, cntR]
        cases u with
        | lst l => have := cntRs_length l; simp only [cntU, U.toLst]; omega
        | _ => simp [U.toLst]
    omega
/-- A loop that compares two rows element by element. -/
theorem eq_loop {l0 : Int → Option Ret} {a b : List (List U)} {R F : Option Ret} [Decidable (a = b)] [∀ i, Decidable (a.getD i [] = b.getD i [])] (hl : a.length = b.length) (hend : l0 (a.length : Int) = R) (hstep : ∀ i, i < a.length → l0 (i : Int) = bif decide (a.getD i [] = b.getD i []) then l0 ((i + 1 : Nat) : Int) else F) : l0 0 = bif decide (a = b) then R else F := by
  rw [all_loop3 (p := fun i => decide (a.getD i [] = b.getD i [])) hend hstep]
  congr 1
  by_cases h : a = b
  · rw [decide_eq_true h, List.all_eq_true]
    exact fun i _ => decide_eq_true (by rw [h])
  · rw [decide_eq_false h, Bool.eq_false_iff]
    intro hh
    apply h
    apply List.ext_getElem hl
    intro i h1 h2
    have := of_decide_eq_true (List.all_eq_true.1 hh i (List.mem_range.2 h1))
    rwa [List.getD_eq_getElem?_getD, List.getElem?_eq_getElem h1, List.getD_eq_getElem?_getD, List.getElem?_eq_getElem h2] at this
theorem bif_dec {p : Prop} (i j : Decidable p) : (bif @decide p i then rB true else rB false) = rB (@decide p j) := by
  obtain rfl : i = j := Subsingleton.elim _ _
  cases @decide p i <;> rfl
/-- Where the first one is. -/
def pos (p : Nat → Bool) : Nat → Nat → Int
  | 0, _ => -1
  | k + 1, i => if p i then (i : Int) else pos p k (i + 1)
theorem pos_any (p : Nat → Bool) : ∀ (k i : Nat), decide (pos p k i ≥ 0) = (List.range' i k).any p
  | 0, i => by simp [pos]
  | k + 1, i => by
    rw [List.range'_succ, List.any_cons, pos]
    cases h : p i
    · rw [if_neg (by simp), pos_any p k (i + 1), Bool.false_or]
    · rw [if_pos rfl, Bool.true_or]
      exact decide_eq_true (by omega)
theorem pos_spec (p : Nat → Bool) : ∀ (k i : Nat), pos p k i = -1 ∨ ∃ j : Nat, pos p k i = (j : Int) ∧ i ≤ j ∧ j < i + k ∧ p j = true
  | 0, i => .inl rfl
  | k + 1, i => by
    unfold pos
    split
    · rename_i h; exact .inr ⟨i, rfl, Nat.le_refl _, by omega, h⟩
    · rcases pos_spec p k (i + 1) with h | ⟨j, h1, h2, h3, h4⟩
      · exact .inl h
      · exact .inr ⟨j, h1, by omega, by omega, h4⟩
theorem find_loop {l0 : Int → Option Ret} {n : Nat} {p : Nat → Bool} (hend : l0 (n : Int) = rI (-1)) (hstep : ∀ i, i < n → l0 (i : Int) = bif p i then rI (i : Int) else l0 ((i + 1 : Nat) : Int)) : l0 0 = rI (pos p n 0) := by
  have key : ∀ i, i ≤ n → l0 (i : Int) = rI (pos p (n - i) i) := by
    refine down n ?_ ?_
    · rw [hend, Nat.sub_self]; rfl
    · intro i hi h
      rw [hstep i hi, show n - i = (n - (i + 1)) + 1 from by omega, pos]
      cases p i
      · rw [cond_false, h, if_neg (by simp)]
      · rfl
  have := key 0 (Nat.zero_le _)
  simpa using this
/-- A loop that gathers rows. -/
theorem gather_loop {l0 : Int → List (List U) → Option Ret} {n : Nat} {p : Nat → Bool} {row : Nat → List U} {R : List (List U) → Option Ret} (hend : ∀ s, s.length ≤ n → l0 (n : Int) s = R s)
    (hstep : ∀ i, i < n → ∀ s : List (List U), s.length ≤ i → l0 (i : Int) s = bif p i then l0 ((i + 1 : Nat) : Int) (s ++ [row i]) else l0 ((i + 1 : Nat) : Int) s) : l0 0 [] = R (((List.range n).filter p).map row) := by
  have key : ∀ i, i ≤ n → l0 0 [] = l0 (i : Int) (((List.range i).filter p).map row) := by
    intro i
    induction i with
    | zero => exact fun _ => rfl
    | succ i ih =>
      intro hi
      have hle : (((List.range i).filter p).map row).length ≤ i := by
        rw [List.length_map]; exact Nat.le_trans (List.length_filter_le _ _) (by simp)
      rw [ih (by omega), hstep i (by omega) _ hle, List.range_succ, List.filter_append, List.map_append]
      cases h : p i <;> simp [h]
  rw [key n (Nat.le_refl _)]
  exact hend _ (by rw [List.length_map]; exact Nat.le_trans (List.length_filter_le _ _) (by simp))
theorem range_filter {α β : Type} (xs : List α) (z : α) (q : α → Bool) (r : α → β) : ((List.range xs.length).filter (fun i => q (xs.getD i z))).map (fun i => r (xs.getD i z)) = (xs.filter q).map r := by
  have e := range_getD xs z
  conv => rhs; rw [← e, List.filter_map, List.map_map]
  rfl
/-- A loop that counts. -/
theorem count_loop {l0 : Int → Int → Option Ret} {n : Nat} {p : Nat → Bool} {R : Int → Option Ret} (hend : ∀ k : Nat, k ≤ n → l0 (n : Int) (k : Int) = R (k : Int))
    (hstep : ∀ i, i < n → ∀ k : Nat, k ≤ i → l0 (i : Int) (k : Int) = bif p i then l0 ((i + 1 : Nat) : Int) ((k + 1 : Nat) : Int) else l0 ((i + 1 : Nat) : Int) (k : Int)) : l0 0 0 = R (((List.range n).countP p : Nat) : Int) := by
  have key : ∀ i, i ≤ n → l0 0 0 = l0 (i : Int) (((List.range i).countP p : Nat) : Int) := by
    intro i
    induction i with
    | zero => exact fun _ => rfl
    | succ i ih =>
      intro hi
      have hle : (List.range i).countP p ≤ i := Nat.le_trans List.countP_le_length (by simp)
      rw [ih (by omega), hstep i (by omega) _ hle, List.range_succ, List.countP_append]
      cases h : p i <;> simp [h]
  rw [key n (Nat.le_refl _)]
  exact hend _ (Nat.le_trans List.countP_le_length (by simp))
theorem range_count {α : Type} (xs : List α) (z : α) (q : α → Bool) : (List.range xs.length).countP (fun i => q (xs.getD i z)) = xs.countP q := by
  have e := range_getD xs z
  conv => rhs; rw [← e, List.countP_map]
  rfl
/-- One cell is set. -/
theorem WTs.set {T : Tab} {cts : List CT} {us : List U} (h : WTs T cts us) {i : Nat} {ct : CT} (hc : cts[i]? = some ct) {u : U} (hu : WT T ct u) : WTs T cts (us.set i u) := by
  refine ⟨by rw [List.length_set]; exact h.1, fun j ct' u' h1 h2 => ?_⟩
  by_cases hj : i = j
  · subst hj
    have hl : i < us.length := by
      have := lt_of_some h2
      rwa [List.length_set] at this
    rw [List.getElem?_set_self hl] at h2
    cases h2
    rw [hc] at h1; cases h1; exact hu
  · rw [List.getElem?_set_ne hj] at h2
    exact h.2 j ct' u' h1 h2
theorem cntRs_set {xs : List (List U)} {i : Nat} {r : List U} (h : i < xs.length) (hr : cntR r = cntR (xs.getD i [])) : cntRs (xs.set i r) = cntRs xs := by
  induction xs generalizing i with
  | nil => simp at h
  | cons x xs ih =>
    cases i with
    | zero => simp only [List.set_cons_zero, cntRs]; rw [hr]; rfl
    | succ i => simp only [List.set_cons_succ, cntRs]; rw [ih (by simpa using h) (by simpa using hr)]
/-- Elements by number. -/
theorem all_get {α : Type} (xs : List α) (z : α) (q : Nat → α → Bool) : (List.range xs.length).all (fun i => q i (xs.getD i z)) = true ↔ ∀ i, i < xs.length → q i (xs.getD i z) = true := by
  rw [List.all_eq_true]
  exact ⟨fun h i hi => h i (List.mem_range.2 hi), fun h i hi => h i (List.mem_range.1 hi)⟩
/-- A loop that carries a state. -/
theorem fold_loop {S : Type} {l0 : Int → S → Option Ret} {n : Nat} {step : S → Nat → S} {R : S → Option Ret} {I : Nat → S → Prop} (hend : ∀ s, I n s → l0 (n : Int) s = R s) (hstep : ∀ i, i < n → ∀ s, I i s → I (i + 1) (step s i) ∧ l0 (i : Int) s = l0 ((i + 1 : Nat) : Int) (step s i)) {s0 : S} (h0 : I 0 s0) :
    l0 0 s0 = R ((List.range n).foldl step s0) ∧ I n ((List.range n).foldl step s0) := by
  have key : ∀ i, i ≤ n → I i ((List.range i).foldl step s0) ∧ l0 0 s0 = l0 (i : Int) ((List.range i).foldl step s0) := by
    intro i
    induction i with
    | zero => exact fun _ => ⟨h0, rfl⟩
    | succ i ih =>
      intro hi
      obtain ⟨h1, h2⟩ := ih (by omega)
      obtain ⟨h3, h4⟩ := hstep i (by omega) _ h1
      rw [List.range_succ, List.foldl_append]
      exact ⟨h3, h2.trans h4⟩
  obtain ⟨h1, h2⟩ := key n (Nat.le_refl _)
  exact ⟨h2.trans (hend _ h1), h1⟩
end Go.Proofs.Ytlkcpabdpmenpaa.Eng
