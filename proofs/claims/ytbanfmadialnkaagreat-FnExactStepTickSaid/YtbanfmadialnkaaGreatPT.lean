/- Rows that are of their type; how many elements they have. Of no program. -/
import Derived.Test.YtbanfmadialnkaaGreatPS
namespace Go.Proofs.YtbanfmadialnkaaGreat.Eng
open Go.RowKit
set_option linter.unusedVariables false
theorem acj {T : bg} : xz T [] [] := ⟨rfl, fun j => by simp⟩
theorem Kv {T : bg} {ct : CT} {ai : List CT} {u : U} {us : List U} (h : WT T ct u) (h' : xz T ai us) : xz T (ct :: ai) (u :: us) := ⟨by simp [h'.1], fun j bn u' h1 h2 => by
 cases j with
 | zero => simp at h1 h2; rw [← h1, ← h2]; exact h
 | succ j => exact h'.2 j bn u' (by simpa using h1) (by simpa using h2)⟩
theorem WR.sub {T : bg} {e : TypeId} {xs ys : List (List U)} (h : WR T e xs) (hl : ys.length ≤ xs.length) (hs : ∀ y ∈ ys, y ∈ xs) : WR T e ys := ⟨Nat.le_trans hl h.1, fun y hy => h.2 y (hs y hy)⟩
theorem WR.one {T : bg} {e : TypeId} {x : List U} (h : xz T (T e) x) : WR T e [x] := ⟨by simp, fun y hy => by simp at hy; rw [hy]; exact h⟩
end Go.Proofs.YtbanfmadialnkaaGreat.Eng
/- half -/
