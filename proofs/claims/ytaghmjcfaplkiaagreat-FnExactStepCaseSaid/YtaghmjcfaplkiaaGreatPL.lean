/- Plain lemmas for equations over data: of no program. -/
import Derived.Test.YtaghmjcfaplkiaaGreatE38
namespace Go.Proofs.YtaghmjcfaplkiaaGreat.Eng
open Go.RowKit
set_option linter.unusedVariables false

@[simp] theorem aJ.ZJ (res : List (List U)) (ms : List (List (List U))) (j i : Nat) : (⟨res, ms⟩ : aJ).u j i = (res.getD j []).getD i U0 := rfl
@[simp] theorem aJ.XI (res : List (List U)) (ms : List (List (List U))) (j : Nat) : (⟨res, ms⟩ : aJ).m j = ms.getD j [] := rfl
theorem Gf {n : Int} (h : -9223372036854775808 ≤ n) (h' : n ≤ 9223372036854775807) : IntKind.i64.wrap n = n := by
 have e : IntKind.i64.wrap n = if n % 18446744073709551616 ≥ 9223372036854775808 then n % 18446744073709551616 - 18446744073709551616 else n % 18446744073709551616 := by
  unfold IntKind.wrap
  simp [IntKind.signed, IntKind.bits]
 rw [e]
 split <;> omega
theorem FU {n : Nat} (h : n ≤ 9223372036854775806) : IntKind.i64.wrap ((n : Int) + 1) = ((n + 1 : Nat) : Int) := by
 rw [Gf (by omega) (by omega)]; rfl
theorem FG {i n : Nat} : dE (i : Int) n = decide (i < n) := by
 unfold dE
 congr 1
 simp only [eq_iff_iff]
 omega
theorem FJ {i n : Nat} (h : i < n) : decide ((i : Int) < (n : Int)) = true := decide_eq_true (by omega)
theorem FK {i n : Nat} (h : n ≤ i) : decide ((i : Int) < (n : Int)) = false := decide_eq_false (by omega)
theorem FW {n b : Nat} (h : n * b ≤ 140737488355328) (h' : n ≤ 9223372036854775807) : room n b = true := decide_eq_true ⟨h, h'⟩
@[simp] theorem HJ (xs : List (List U)) (i o : Nat) (us : List U) : (bY xs i o us).length = xs.length := List.length_set
/-- From the last round down to the first. -/
theorem down {P : Nat → Prop} (n : Nat) (h0 : P n) (h : ∀ i, i < n → P (i + 1) → P i) : ∀ i, i ≤ n → P i := by
 intro i hi
 obtain ⟨d, hd⟩ : ∃ d, n = i + d := ⟨n - i, by omega⟩
 clear hi
 induction d generalizing i with
 | zero => rw [Nat.add_zero] at hd; exact hd ▸ h0
 | succ d ih => exact h i (by omega) (ih (i + 1) (by omega))
/-- A loop that fills a row of its own, element by element. -/
theorem HA {l0 : Int → List (List U) → Option aJ} {n : Nat} {z : List U} {row : Nat → List U} {R : List (List U) → Option aJ} (Hb : ∀ s, s.length = n → l0 (n : Int) s = R s)
  (iH : ∀ i, i < n → ∀ s : List (List U), s.length = n → s.getD i [] = z → l0 (i : Int) s = l0 ((i + 1 : Nat) : Int) (s.set i (row i))) : l0 0 (List.replicate n z) = R ((List.range n).map row) := by
 have key : ∀ i, i ≤ n → l0 (i : Int) ((List.range i).map row ++ List.replicate (n - i) z) = R ((List.range n).map row) := by
  refine down n ?_ ?_
  ·rw [Hb _ (by simp)]
   simp
  ·intro i hi h
   have e3 : ((List.range i).map row).length = i := by simp
   have e2 : n - i = (n - (i + 1)) + 1 := by omega
   rw [iH i hi _ (by simp; omega) (by rw [List.getD_eq_getElem?_getD, List.getElem?_append_right (by omega), e3, Nat.sub_self, e2]; rfl), ← h]
   congr 1
   rw [List.range_succ, List.map_append, e2, List.replicate_succ, List.set_append_right _ _ (by omega), e3, Nat.sub_self, List.append_assoc]
   rfl
 have := key 0 (Nat.zero_le _)
 simpa using this
theorem Hh {α : Type} (xs : List α) (z : α) : (List.range xs.length).map (fun i => xs.getD i z) = xs := by
 apply List.ext_getElem?
 intro i
 rw [List.getElem?_map]
 by_cases h : i < xs.length
 ·rw [List.getElem?_range h, Option.map_some, List.getD_eq_getElem?_getD, List.getElem?_eq_getElem h]; rfl
 ·rw [List.getElem?_eq_none (by simpa using h), List.getElem?_eq_none (by omega)]; rfl
/-- A loop that goes over all elements, and finds nothing. -/
theorem Hz {l0 : Int → Option aJ} {n : Nat} {R : Option aJ} (Hb : l0 (n : Int) = R) (iH : ∀ i, i < n → l0 (i : Int) = l0 ((i + 1 : Nat) : Int)) : l0 0 = R := by
 have := down (P := fun i => l0 (i : Int) = R) n Hb (fun i hi h => (iH i hi).trans h) 0 (Nat.zero_le _)
 exact this
/-- Several stores into one element. -/
theorem Gm (xs : List (List U)) (i o : Nat) (us : List U) : bY xs i o us = xs.set i (fR (xs.getD i []) o us) := rfl
theorem HK {xs : List (List U)} {i o : Nat} {r us : List U} (h : i < xs.length) : bY (xs.set i r) i o us = xs.set i (fR r o us) := by
 rw [Gm, List.getD_eq_getElem?_getD, List.getElem?_set_self h, List.set_set]; rfl
theorem Gw (row : List U) (o : Nat) : fR row o [] = row := rfl
theorem Gv (row : List U) (o : Nat) (u : U) (us : List U) : fR row o (u :: us) = fR (row.set o u) (o + 1) us := rfl
/-- Well-typed data, by cases. -/
theorem WT.nY {T : bl} {k : IntKind} {u : U} (h : WT T (.int k) u) : ∃ n, u = .int n ∧ (Lit.int k n).wf = true := by cases h; exact ⟨_, rfl, by assumption⟩
theorem WT.pf {T : bl} {u : U} (h : WT T .bool u) : ∃ b, u = .bool b := by cases h; exact ⟨_, rfl⟩
/-- Rows of a type. -/
def WR (T : bl) (e : TypeId) (xs : List (List U)) : Prop := xs.length ≤ 9223372036854775807 ∧ ∀ x ∈ xs, zx T (T e) x
theorem WT.qR {T : bl} {e : TypeId} {u : U} (h : WT T (.aj e) u) : ∃ xs, u = .lst xs ∧ WR T e xs := by
 cases h with
 | aj _ xs hm hs h => exact ⟨xs, rfl, hm, fun x hx => by
   obtain ⟨i, hi⟩ := List.getElem?_of_mem hx
   exact ⟨hs i x hi, fun j ct u ai hu => h i j x u ct hi hu ai⟩⟩
theorem Ru {n : Int} (h : (Lit.int .i64 n).wf = true) : -9223372036854775808 ≤ n ∧ n ≤ 9223372036854775807 := by
 simp only [Lit.wf, Bool.and_eq_true, decide_eq_true_eq] at h
 exact h
theorem zx.nil {T : bl} {us : List U} (h : zx T [] us) : us = [] := List.eq_nil_of_length_eq_zero h.1
theorem zx.cons {T : bl} {ct : CT} {ab : List CT} {us : List U} (h : zx T (ct :: ab) us) : ∃ u mC, us = u :: mC ∧ WT T ct u ∧ zx T ab mC := by
 cases us with
 | nil => have := h.1; simp at this
 | cons u us => exact ⟨u, us, rfl, h.2 0 ct u rfl rfl, by have := h.1; simpa using this, fun j br u' h1 h2 => h.2 (j + 1) br u' (by simpa using h1) (by simpa using h2)⟩
end Go.Proofs.YtaghmjcfaplkiaaGreat.Eng
/- half -/
