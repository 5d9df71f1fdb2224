/- Rows that are of their type; how many elements they have. Of no program. -/
import Derived.Test.YteahcmobjegpnaaPS
namespace Go.Proofs.Yteahcmobjegpnaa.Eng
open Go.RowKit
set_option linter.unusedVariables false
theorem wnil {T : Tab} : WTs T [] [] := ⟨rfl, fun j => by simp⟩
theorem wcons {T : Tab} {ct : CT} {cts : List CT} {u : U} {us : List U} (h : WT T ct u) (h' : WTs T cts us) : WTs T (ct :: cts) (u :: us) := ⟨by simp [h'.1], fun j ct' u' h1 h2 => by
  cases j with
  | zero => simp at h1 h2; rw [← h1, ← h2]; exact h
  | succ j => exact h'.2 j ct' u' (by simpa using h1) (by simpa using h2)⟩
theorem wint {T : Tab} {n : Int} (h : -9223372036854775808 ≤ n ∧ n ≤ 9223372036854775807) : WT T (.int .i64) (.int n) := .int _ _ (by simp only [Lit.wf, Bool.and_eq_true, decide_eq_true_eq]; exact h)
theorem WR.app {T : Tab} {e : TypeId} {xs ys : List (List U)} (h : WR T e xs) (h' : WR T e ys) (hl : xs.length + ys.length ≤ 9223372036854775807) : WR T e (xs ++ ys) := ⟨by simpa using hl, fun y hy => by
  rcases List.mem_append.1 hy with hy | hy
  · exact h.2 y hy
  · exact h'.2 y hy⟩
theorem WR.one {T : Tab} {e : TypeId} {x : List U} (h : WTs T (T e) x) : WR T e [x] := ⟨by simp, fun y hy => by simp at hy; rw [hy]; exact h⟩
theorem WR.toWT {T : Tab} {e : TypeId} {xs : List (List U)} (h : WR T e xs) : WT T (.slc e) (.lst xs) :=
  .slc e xs h.1 (fun i x hx => (h.2 x (List.mem_of_getElem? hx)).1) fun i j x u ct hx hu hct => (h.2 x (List.mem_of_getElem? hx)).2 j ct u hct hu
theorem cntRs_app : ∀ xs ys : List (List U), cntRs (xs ++ ys) = cntRs xs + cntRs ys
  | [], ys => by simp [cntRs]
  | x :: xs, ys => by rw [List.cons_append, cntRs, cntRs, cntRs_app xs ys]; omega
theorem cntRs_put : ∀ {xs : List (List U)} {i : Nat} {r : List U}, i < xs.length → cntRs (xs.set i r) + cntR (xs.getD i []) = cntRs xs + cntR r
  | [], _, _, h => by simp at h
  | x :: xs, 0, r, _ => by simp [cntRs]; omega
  | x :: xs, i + 1, r, h => by
    have := cntRs_put (xs := xs) (i := i) (r := r) (by simpa using h)
    rw [List.set_cons_succ, cntRs, cntRs, List.getD_cons_succ]; omega
end Go.Proofs.Yteahcmobjegpnaa.Eng
