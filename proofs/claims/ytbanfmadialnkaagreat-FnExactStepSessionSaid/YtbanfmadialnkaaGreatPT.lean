/- Rows that are of their type; how many elements they have. Of no program. -/
import Derived.Test.YtbanfmadialnkaaGreatPS
namespace Go.Proofs.YtbanfmadialnkaaGreat.Eng
open Go.RowKit
set_option linter.unusedVariables false
theorem VQ {T : bg} : xz T [] [] := ⟨rfl, fun j => by simp⟩
theorem Gu {T : bg} {ct : CT} {ai : List CT} {u : U} {us : List U} (h : WT T ct u) (h' : xz T ai us) : xz T (ct :: ai) (u :: us) := ⟨by simp [h'.1], fun j bn u' h1 h2 => by
 cases j with
 | zero => simp at h1 h2; rw [← h1, ← h2]; exact h
 | succ j => exact h'.2 j bn u' (by simpa using h1) (by simpa using h2)⟩
theorem Hs {T : bg} {n : Int} (h : -9223372036854775808 ≤ n ∧ n ≤ 9223372036854775807) : WT T (.int .i64) (.int n) := .int _ _ (by simp only [Lit.wf, Bool.and_eq_true, decide_eq_true_eq]; exact h)
theorem WR.sub {T : bg} {e : TypeId} {xs ys : List (List U)} (h : WR T e xs) (hl : ys.length ≤ xs.length) (hs : ∀ y ∈ ys, y ∈ xs) : WR T e ys := ⟨Nat.le_trans hl h.1, fun y hy => h.2 y (hs y hy)⟩
theorem WR.app {T : bg} {e : TypeId} {xs ys : List (List U)} (h : WR T e xs) (h' : WR T e ys) (hl : xs.length + ys.length ≤ 9223372036854775807) : WR T e (xs ++ ys) := ⟨by simpa using hl, fun y hy => by
 rcases List.mem_append.1 hy with hy | hy
 ·exact h.2 y hy
 ·exact h'.2 y hy⟩
theorem WR.one {T : bg} {e : TypeId} {x : List U} (h : xz T (T e) x) : WR T e [x] := ⟨by simp, fun y hy => by simp at hy; rw [hy]; exact h⟩
theorem WR.abG {T : bg} {e : TypeId} {xs : List (List U)} (h : WR T e xs) : WT T (.aq e) (.lst xs) :=
 .aq e xs h.1 (fun i x hx => (h.2 x (List.mem_of_getElem? hx)).1) fun i j x u ct hx hu ah => (h.2 x (List.mem_of_getElem? hx)).2 j ct u ah hu
theorem TU : ∀ {xs : List (List U)} {i : Nat} {r : List U}, i < xs.length → Db (xs.set i r) + Dp (xs.getD i []) = Db xs + Dp r
 | [], _, _, h => by simp at h
 | x :: xs, 0, r, _ => by simp [Db]; omega
 | x :: xs, i + 1, r, h => by
  have := TU (xs := xs) (i := i) (r := r) (by simpa using h)
  rw [List.set_cons_succ, Db, Db, List.getD_cons_succ]; omega
end Go.Proofs.YtbanfmadialnkaaGreat.Eng
/- half -/
