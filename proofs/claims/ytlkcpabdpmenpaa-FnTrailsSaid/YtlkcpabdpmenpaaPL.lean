/- Plain lemmas for equations over data: of no program. -/
import Derived.Test.YtlkcpabdpmenpaaE38
namespace Go.Proofs.Ytlkcpabdpmenpaa.Eng
open Go.RowKit
set_option linter.unusedVariables false

@[simp] theorem Ret.u_mk (res : List (List U)) (ms : List (List (List U))) (j i : Nat) : (⟨res, ms⟩ : Ret).u j i = (res.getD j []).getD i U0 := rfl
@[simp] theorem Ret.m_mk (res : List (List U)) (ms : List (List (List U))) (j : Nat) : (⟨res, ms⟩ : Ret).m j = ms.getD j [] := rfl
theorem wrap_id {n : Int} (h : -9223372036854775808 ≤ n) (h' : n ≤ 9223372036854775807) : IntKind.i64.wrap n = n := by
  have e : IntKind.i64.wrap n = if n % 18446744073709551616 ≥ 9223372036854775808 then n % 18446744073709551616 - 18446744073709551616 else n % 18446744073709551616 := by
    unfold IntKind.wrap
    simp [IntKind.signed, IntKind.bits]
  rw [e]
  split <;> omega
theorem wrap_nat {n : Nat} (h : n ≤ 9223372036854775806) : IntKind.i64.wrap ((n : Int) + 1) = ((n + 1 : Nat) : Int) := by
  rw [wrap_id (by omega) (by omega)]; rfl
theorem inRange_nat {i n : Nat} : inRange (i : Int) n = decide (i < n) := by
  unfold inRange
  congr 1
  simp only [eq_iff_iff]
  omega
theorem inRange_true {i : Int} {n : Nat} (h : 0 ≤ i) (h' : i < (n : Int)) : inRange i n = true := decide_eq_true ⟨h, h'⟩
theorem lt_nat {i n : Nat} (h : i < n) : decide ((i : Int) < (n : Int)) = true := decide_eq_true (by omega)
theorem not_lt_nat {i n : Nat} (h : n ≤ i) : decide ((i : Int) < (n : Int)) = false := decide_eq_false (by omega)
theorem room_true {n b : Nat} (h : n * b ≤ 140737488355328) (h' : n ≤ 9223372036854775807) : room n b = true := decide_eq_true ⟨h, h'⟩
@[simp] theorem setEl_length (xs : List (List U)) (i o : Nat) (us : List U) : (setEl xs i o us).length = xs.length := List.length_set
/-- From the last round down to the first. -/
theorem down {P : Nat → Prop} (n : Nat) (h0 : P n) (h : ∀ i, i < n → P (i + 1) → P i) : ∀ i, i ≤ n → P i := by
  intro i hi
  obtain ⟨d, hd⟩ : ∃ d, n = i + d := ⟨n - i, by omega⟩
  clear hi
  induction d generalizing i with
  | zero => rw [Nat.add_zero] at hd; exact hd ▸ h0
  | succ d ih => exact h i (by omega) (ih (i + 1) (by omega))
/-- A loop that fills a row of its own, element by element. -/
theorem fill_loop {l0 : Int → List (List U) → Option Ret} {n : Nat} {z : List U} {row : Nat → List U} {R : List (List U) → Option Ret} (hend : ∀ s, s.length = n → l0 (n : Int) s = R s)
    (hstep : ∀ i, i < n → ∀ s : List (List U), s.length = n → s.getD i [] = z → l0 (i : Int) s = l0 ((i + 1 : Nat) : Int) (s.set i (row i))) : l0 0 (List.replicate n z) = R ((List.range n).map row) := by
  have key : ∀ i, i ≤ n → l0 (i : Int) ((List.range i).map row ++ List.replicate (n - i) z) = R ((List.range n).map row) := by
    refine down n ?_ ?_
    · rw [hend _ (by simp)]
      simp
    · intro i hi h
      have e3 : ((List.range i).map row).length = i := by simp
      have e2 : n - i = (n - (i + 1)) + 1 := by omega
      rw [hstep i hi _ (by simp; omega) (by rw [List.getD_eq_getElem?_getD, List.getElem?_append_right (by omega), e3, Nat.sub_self, e2]; rfl), ← h]
      congr 1
      rw [List.range_succ, List.map_append, e2, List.replicate_succ, List.set_append_right _ _ (by omega), e3, Nat.sub_self, List.append_assoc]
      rfl
  have := key 0 (Nat.zero_le _)
  simpa using this
theorem range_getD {α : Type} (xs : List α) (z : α) : (List.range xs.length).map (fun i => xs.getD i z) = xs := by
  apply List.ext_getElem?
  intro i
  rw [List.getElem?_map]
  by_cases h : i < xs.length
  · rw [List.getElem?_range h, Option.map_some, List.getD_eq_getElem?_getD, List.getElem?_eq_getElem h]; rfl
  · rw [List.getElem?_eq_none (by simpa using h), List.getElem?_eq_none (by omega)]; rfl
/-- A loop that goes over all elements, and finds nothing. -/
theorem all_loop {l0 : Int → Option Ret} {n : Nat} {R : Option Ret} (hend : l0 (n : Int) = R) (hstep : ∀ i, i < n → l0 (i : Int) = l0 ((i + 1 : Nat) : Int)) : l0 0 = R := by
  have := down (P := fun i => l0 (i : Int) = R) n hend (fun i hi h => (hstep i hi).trans h) 0 (Nat.zero_le _)
  exact this
/-- Marks: an element's row and what it is marked with from k on. -/
def markL (f : List U → Int → List U × Int) : List (List U) → Int → List (List U) × Int
  | [], k => ([], k)
  | x :: xs, k => ((f x k).1 :: (markL f xs (f x k).2).1, (markL f xs (f x k).2).2)
theorem markL_length (f : List U → Int → List U × Int) : ∀ (xs : List (List U)) (k : Int), (markL f xs k).1.length = xs.length
  | [], k => rfl
  | x :: xs, k => by simp [markL, markL_length f xs]
theorem mark_loop {l0 : Int → Int → List (List U) → Option Ret} {f : List U → Int → List U × Int} {xs : List (List U)} {c : Nat} (hf : ∀ x ∈ xs, ∀ k, 0 ≤ k → k ≤ (f x k).2 ∧ (f x k).2 ≤ k + (c : Int)) (hend : ∀ k s, s.length = xs.length → l0 k (xs.length : Int) s = some ⟨[[.int k]], [s]⟩)
    (hstep : ∀ i, i < xs.length → ∀ (k : Int) (s : List (List U)), s.length = xs.length → s.getD i [] = xs.getD i [] → 0 ≤ k → k + (c : Int) ≤ 4611686018427387904 → l0 k (i : Int) s = l0 (f (xs.getD i []) k).2 ((i + 1 : Nat) : Int) (s.set i (f (xs.getD i []) k).1)) :
    ∀ {k : Int}, 0 ≤ k → k + (c * xs.length : Nat) ≤ 4611686018427387904 → l0 k 0 xs = some ⟨[[.int (markL f xs k).2]], [(markL f xs k).1]⟩ ∧ k ≤ (markL f xs k).2 ∧ (markL f xs k).2 ≤ k + (c * xs.length : Nat) := by
  have key : ∀ (ys : List (List U)) (pre : List (List U)) (k : Int) (i : Nat), i + ys.length = xs.length → pre.length = i → ys = xs.drop i → 0 ≤ k → k + (c * ys.length : Nat) ≤ 4611686018427387904 →
      l0 k (i : Int) (pre ++ ys) = some ⟨[[.int (markL f ys k).2]], [pre ++ (markL f ys k).1]⟩ ∧ k ≤ (markL f ys k).2 ∧ (markL f ys k).2 ≤ k + (c * ys.length : Nat) := by
    intro ys
    induction ys with
    | nil =>
      intro pre k i h1 h2 h3 h4 h5
      have hi : i = xs.length := by simpa using h1
      subst hi
      refine ⟨?_, by simp [markL], by simp [markL]⟩
      rw [hend k (pre ++ []) (by simp [h2])]; rfl
    | cons y ys ih =>
      intro pre k i h1 h2 h3 h4 h5
      simp only [List.length_cons] at h1 h5
      have hi : i < xs.length := by omega
      have hy : xs.getD i [] = y := by
        rw [List.getD_eq_getElem?_getD]
        have : xs[i]? = (xs.drop i)[0]? := by rw [List.getElem?_drop]; rfl
        rw [this, ← h3]; rfl
      have hmem : y ∈ xs := by rw [← hy, List.getD_eq_getElem?_getD, List.getElem?_eq_getElem hi]; exact List.getElem_mem hi
      have hc : c * (ys.length + 1) = c * ys.length + c := Nat.mul_succ ..
      obtain ⟨g1, g2⟩ := hf y hmem k h4
      have hs := hstep i hi k (pre ++ y :: ys) (by simp; omega) (by rw [hy, List.getD_eq_getElem?_getD, List.getElem?_append_right (by omega), h2, Nat.sub_self]; rfl) h4 (by omega)
      rw [hy] at hs
      have e1 : (pre ++ y :: ys).set i (f y k).1 = (pre ++ [(f y k).1]) ++ ys := by
        rw [List.set_append_right _ _ (by omega), h2, Nat.sub_self, List.append_assoc]; rfl
      rw [e1] at hs
      obtain ⟨q1, q2, q3⟩ := ih (pre ++ [(f y k).1]) (f y k).2 (i + 1) (by omega) (by simp [h2]) (by rw [← List.tail_drop, ← h3]; rfl) (by omega) (by omega)
      refine ⟨hs.trans (q1.trans ?_), ?_, ?_⟩
      · simp [markL]
      · show k ≤ (markL f ys (f y k).2).2; omega
      · show (markL f ys (f y k).2).2 ≤ _
        simp only [List.length_cons]
        omega
  intro k h1 h2
  have := key xs [] k 0 (by simp) rfl rfl h1 h2
  simpa using this
/-- The marks are read back. -/
theorem held_loop {l0 : Int → Int → Option Ret} {f : List U → Int → List U × Int} {xs : List (List U)} {c : Nat} (hf : ∀ x ∈ xs, ∀ k, 0 ≤ k → k ≤ (f x k).2 ∧ (f x k).2 ≤ k + (c : Int)) {m : Int} (hm : 0 ≤ m) (hb : m + (c * xs.length : Nat) ≤ 4611686018427387904) (hend : ∀ k, l0 k (xs.length : Int) = some ⟨[[.int k]], []⟩)
    (hstep : ∀ i, i < xs.length → ∀ (k : Int), (markL f xs m).1.getD i [] = (f (xs.getD i []) k).1 → 0 ≤ k → k + (c : Int) ≤ 4611686018427387904 → l0 k (i : Int) = l0 (f (xs.getD i []) k).2 ((i + 1 : Nat) : Int)) : l0 m 0 = some ⟨[[.int (markL f xs m).2]], []⟩ := by
  have key : ∀ (ys : List (List U)) (k : Int) (i : Nat), i + ys.length = xs.length → ys = xs.drop i → (markL f xs m).1.drop i = (markL f ys k).1 → (markL f xs m).2 = (markL f ys k).2 → 0 ≤ k → k + (c * ys.length : Nat) ≤ 4611686018427387904 → l0 k (i : Int) = some ⟨[[.int (markL f xs m).2]], []⟩ := by
    intro ys
    induction ys with
    | nil =>
      intro k i h1 h2 h3 h4 h5 h6
      have hi : i = xs.length := by simpa using h1
      subst hi
      rw [hend k, h4]; rfl
    | cons y ys ih =>
      intro k i h1 h2 h3 h4 h5 h6
      simp only [List.length_cons] at h1 h6
      have hi : i < xs.length := by omega
      have hy : xs.getD i [] = y := by
        rw [List.getD_eq_getElem?_getD]
        have : xs[i]? = (xs.drop i)[0]? := by rw [List.getElem?_drop]; rfl
        rw [this, ← h2]; rfl
      have hmem : y ∈ xs := by rw [← hy, List.getD_eq_getElem?_getD, List.getElem?_eq_getElem hi]; exact List.getElem_mem hi
      have hc : c * (ys.length + 1) = c * ys.length + c := Nat.mul_succ ..
      obtain ⟨g1, g2⟩ := hf y hmem k h5
      have hz : (markL f xs m).1.getD i [] = (f y k).1 := by
        rw [List.getD_eq_getElem?_getD]
        have : (markL f xs m).1[i]? = ((markL f xs m).1.drop i)[0]? := by rw [List.getElem?_drop]; rfl
        rw [this, h3]; rfl
      rw [hstep i hi k (by rw [hy]; exact hz) h5 (by omega), hy]
      refine ih (f y k).2 (i + 1) (by omega) (by rw [← List.tail_drop, ← h2]; rfl) ?_ h4 (by omega) (by omega)
      rw [← List.tail_drop, h3]; rfl
  exact key xs m 0 (by simp) rfl rfl rfl hm hb
/-- Several stores into one element. -/
theorem setEl_eq (xs : List (List U)) (i o : Nat) (us : List U) : setEl xs i o us = xs.set i (splice (xs.getD i []) o us) := rfl
theorem setEl_set {xs : List (List U)} {i o : Nat} {r us : List U} (h : i < xs.length) : setEl (xs.set i r) i o us = xs.set i (splice r o us) := by
  rw [setEl_eq, List.getD_eq_getElem?_getD, List.getElem?_set_self h, List.set_set]; rfl
theorem splice_nil (row : List U) (o : Nat) : splice row o [] = row := rfl
theorem splice_cons (row : List U) (o : Nat) (u : U) (us : List U) : splice row o (u :: us) = splice (row.set o u) (o + 1) us := rfl
/-- Well-typed data, by cases. -/
theorem WT.int_inv {T : Tab} {k : IntKind} {u : U} (h : WT T (.int k) u) : ∃ n, u = .int n ∧ (Lit.int k n).wf = true := by cases h; exact ⟨_, rfl, by assumption⟩
theorem WT.bool_inv {T : Tab} {u : U} (h : WT T .bool u) : ∃ b, u = .bool b := by cases h; exact ⟨_, rfl⟩
theorem WT.str_inv {T : Tab} {u : U} (h : WT T .str u) : ∃ s, u = .str s ∧ s.size ≤ maxLen := by cases h; exact ⟨_, rfl, by assumption⟩
/-- Rows of a type. -/
def WR (T : Tab) (e : TypeId) (xs : List (List U)) : Prop := xs.length ≤ 9223372036854775807 ∧ ∀ x ∈ xs, WTs T (T e) x
theorem WT.slc_inv {T : Tab} {e : TypeId} {u : U} (h : WT T (.slc e) u) : ∃ xs, u = .lst xs ∧ WR T e xs := by
  cases h with
  | slc _ xs hm hs h => exact ⟨xs, rfl, hm, fun x hx => by
      obtain ⟨i, hi⟩ := List.getElem?_of_mem hx
      exact ⟨hs i x hi, fun j ct u hct hu => h i j x u ct hi hu hct⟩⟩
theorem wf64 {n : Int} (h : (Lit.int .i64 n).wf = true) : -9223372036854775808 ≤ n ∧ n ≤ 9223372036854775807 := by
  simp only [Lit.wf, Bool.and_eq_true, decide_eq_true_eq] at h
  exact h
theorem WTs.nil {T : Tab} {us : List U} (h : WTs T [] us) : us = [] := List.eq_nil_of_length_eq_zero h.1
theorem WTs.cons {T : Tab} {ct : CT} {cts : List CT} {us : List U} (h : WTs T (ct :: cts) us) : ∃ u us', us = u :: us' ∧ WT T ct u ∧ WTs T cts us' := by
  cases us with
  | nil => have := h.1; simp at this
  | cons u us => exact ⟨u, us, rfl, h.2 0 ct u rfl rfl, by have := h.1; simpa using this, fun j ct' u' h1 h2 => h.2 (j + 1) ct' u' (by simpa using h1) (by simpa using h2)⟩
end Go.Proofs.Ytlkcpabdpmenpaa.Eng
