/- Rows that are of their type; how many elements they have. Of no program. -/
import Derived.Test.YtaghmjcfaplkiaaGreatPS
namespace Go.Proofs.YtaghmjcfaplkiaaGreat.Eng
open Go.RowKit
set_option linter.unusedVariables false
theorem UJ {T : bl} : zx T [] []:=⟨rfl,fun j=>by simp⟩
theorem Hu {T : bl} {ct : CT} {ab : List CT} {u : U} {us : List U} (h : WT T ct u) (h' : zx T ab us) : zx T (ct :: ab) (u :: us):=⟨by simp [h'.1],fun j br u' h1 h2=>by
 cases j with
 | zero=>simp at h1 h2; rw [← h1,← h2]; exact h
 | succ j=>exact h'.2 j br u' (by simpa using h1) (by simpa using h2)⟩
theorem HC {T : bl} {n : Int} (h : -9223372036854775808 ≤ n ∧ n ≤ 9223372036854775807) : WT T (.int .i64) (.int n):=.int _ _ (by simp only [Lit.wf,qQi,qQw]; exact h)
theorem wi {T : bl} {n : Int} (h : WT T (.int .i64) (.int n)) : -9223372036854775808 ≤ n ∧ n ≤ 9223372036854775807:=by
 obtain ⟨m,e,h⟩:=h.nY
 cases e; exact UI h
theorem WR.sub {T : bl} {e : TypeId} {xs ys : List (List U)} (h : WR T e xs) (hl : ys.length ≤ xs.length) (hs : ∀ y ∈ ys,y ∈ xs) : WR T e ys:=⟨qZd hl h.1,fun y hy=>h.2 y (hs y hy)⟩
theorem WR.app {T : bl} {e : TypeId} {xs ys : List (List U)} (h : WR T e xs) (h' : WR T e ys) (hl : xs.length + ys.length ≤ 9223372036854775807) : WR T e (xs ++ ys):=⟨by simpa using hl,fun y hy=>by
 rcases qZg.1 hy with hy | hy
 ·exact h.2 y hy
 ·exact h'.2 y hy⟩
theorem WR.one {T : bl} {e : TypeId} {x : List U} (h : zx T (T e) x) : WR T e [x]:=⟨by simp,fun y hy=>by simp at hy; rw [hy]; exact h⟩
theorem WR.XZ {T : bl} {e : TypeId} {xs : List (List U)} (h : WR T e xs) : WT T (.aj e) (.lst xs) :=
 .aj e xs h.1 (fun i x hx=>(h.2 x (qQz hx)).1) fun i j x u ct hx hu ai=>(h.2 x (qQz hx)).2 j ct u ai hu
theorem Vl : ∀ xs ys : List (List U),Fy (xs ++ ys) = Fy xs + Fy ys
 | [],ys=>by simp [Fy]
 | x :: xs,ys=>by rw [List.cons_append,Fy,Fy,Vl xs ys]; omega
theorem Vm : ∀ {xs : List (List U)} {i : Nat} {r : List U},i < xs.length → Fy (xs.set i r) + FQ (xs.getD i []) = Fy xs + FQ r
 | [],_,_,h=>by simp at h
 | x :: xs,0,r,_=>by simp [Fy]; omega
 | x :: xs,i + 1,r,h=>by
  have:=Vm (xs:=xs) (i:=i) (r:=r) (by simpa using h)
  rw [qQr,Fy,Fy,qZ9]; omega
end Go.Proofs.YtaghmjcfaplkiaaGreat.Eng
/- half -/
