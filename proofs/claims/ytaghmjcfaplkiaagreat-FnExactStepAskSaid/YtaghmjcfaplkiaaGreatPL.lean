/- Plain lemmas for equations over data: of no program. -/
import Derived.Test.YtaghmjcfaplkiaaGreatE38
namespace Go.Proofs.YtaghmjcfaplkiaaGreat.Eng
open Go.RowKit
set_option linter.unusedVariables false

@[simp] theorem aJ.af3 (res : List (List U)) (ms : List (List (List U))) (j i : Nat) : (⟨res,ms⟩ : aJ).u j i = (res.getD j []).getD i U0:=rfl
@[simp] theorem aJ.adD (res : List (List U)) (ms : List (List (List U))) (j : Nat) : (⟨res,ms⟩ : aJ).m j = ms.getD j []:=rfl
theorem Gs {n : Int} (h : -9223372036854775808 ≤ n) (h' : n ≤ 9223372036854775807) : IntKind.i64.wrap n = n:=by
 have e : IntKind.i64.wrap n = if n % 18446744073709551616 ≥ 9223372036854775808 then n % 18446744073709551616 - 18446744073709551616 else n % 18446744073709551616:=by
  unfold IntKind.wrap
  simp [IntKind.signed,IntKind.bits]
 rw [e]
 split <;> omega
theorem FW {n : Nat} (h : n ≤ 9223372036854775806) : IntKind.i64.wrap ((n : Int) + 1) = ((n + 1 : Nat) : Int):=by
 rw [Gs (by omega) (by omega)]; rfl
theorem FR {i n : Nat} : dE (i : Int) n = decide (i < n):=by
 unfold dE
 congr 1
 simp only [qXd]
 omega
theorem FN {i n : Nat} (h : i < n) : decide ((i : Int) < (n : Int)) = true:=qQa (by omega)
theorem FO {i n : Nat} (h : n ≤ i) : decide ((i : Int) < (n : Int)) = false:=qQm (by omega)
theorem FV {n b : Nat} (h : n * b ≤ 140737488355328) (h' : n ≤ 9223372036854775807) : room n b = true:=qQa ⟨h,h'⟩
@[simp] theorem Ix (xs : List (List U)) (i o : Nat) (us : List U) : (bY xs i o us).length = xs.length:=qQl
/-- From the last round down to the first. -/
theorem down {P : Nat → Prop} (n : Nat) (h0 : P n) (h : ∀ i,i < n → P (i + 1) → P i) : ∀ i,i ≤ n → P i:=by
 intro i hi
 obtain ⟨d,hd⟩ : ∃ d,n = i + d:=⟨n - i,by omega⟩
 clear hi
 induction d generalizing i with
 | zero=>rw [qQ5] at hd; exact hd ▸ h0
 | succ d ih=>exact h i (by omega) (ih (i + 1) (by omega))
/-- A loop that fills a row of its own,element by element. -/
theorem Ip {l0 : Int → List (List U) → Option aJ} {n : Nat} {z : List U} {row : Nat → List U} {R : List (List U) → Option aJ} (GY : ∀ s,s.length = n → l0 (n : Int) s = R s)
  (iH : ∀ i,i < n → ∀ s : List (List U),s.length = n → s.getD i [] = z → l0 (i : Int) s = l0 ((i + 1 : Nat) : Int) (s.set i (row i))) : l0 0 (List.replicate n z) = R ((List.range n).map row):=by
 have key : ∀ i,i ≤ n → l0 (i : Int) ((List.range i).map row ++ List.replicate (n - i) z) = R ((List.range n).map row):=by
  refine down n ?_ ?_
  ·rw [GY _ (by simp)]
   simp
  ·intro i hi h
   have e3 : ((List.range i).map row).length = i:=by simp
   have e2 : n - i = (n - (i + 1)) + 1:=by omega
   rw [iH i hi _ (by simp; omega) (by rw [qQe,qQx (by omega),e3,qZn,e2]; rfl),← h]
   congr 1
   rw [List.range_succ,List.map_append,e2,List.replicate_succ,List.set_append_right _ _ (by omega),e3,qZn,qZ4]
   rfl
 have:=key 0 (qQt _)
 simpa using this
theorem HN {α : Type} (xs : List α) (z : α) : (List.range xs.length).map (fun i=>xs.getD i z) = xs:=by
 apply qZm
 intro i
 rw [qQj]
 by_cases h : i < xs.length
 ·rw [qZy h,qQ7,qQe,qQg h]; rfl
 ·rw [qZh (by simpa using h),qZh (by omega)]; rfl
/-- A loop that goes over all elements,and finds nothing. -/
theorem Io {l0 : Int → Option aJ} {n : Nat} {R : Option aJ} (GY : l0 (n : Int) = R) (iH : ∀ i,i < n → l0 (i : Int) = l0 ((i + 1 : Nat) : Int)) : l0 0 = R:=by
 have:=down (P:=fun i=>l0 (i : Int) = R) n GY (fun i hi h=>(iH i hi).trans h) 0 (qQt _)
 exact this
/-- Several stores into one element. -/
theorem Gp (xs : List (List U)) (i o : Nat) (us : List U) : bY xs i o us = xs.set i (fR (xs.getD i []) o us):=rfl
theorem Iy {xs : List (List U)} {i o : Nat} {r us : List U} (h : i < xs.length) : bY (xs.set i r) i o us = xs.set i (fR r o us):=by
 rw [Gp,qQe,qYy h,List.set_set]; rfl
theorem GH (row : List U) (o : Nat) : fR row o [] = row:=rfl
theorem GG (row : List U) (o : Nat) (u : U) (us : List U) : fR row o (u :: us) = fR (row.set o u) (o + 1) us:=rfl
/-- Well-typed data,by cases. -/
theorem WT.nY {T : bl} {k : IntKind} {u : U} (h : WT T (.int k) u) : ∃ n,u = .int n ∧ (Lit.int k n).wf = true:=by cases h; exact ⟨_,rfl,by assumption⟩
theorem WT.pf {T : bl} {u : U} (h : WT T .bool u) : ∃ b,u = .bool b:=by cases h; exact ⟨_,rfl⟩
/-- Rows of a type. -/
def WR (T : bl) (e : TypeId) (xs : List (List U)) : Prop:=xs.length ≤ 9223372036854775807 ∧ ∀ x ∈ xs,zx T (T e) x
theorem WT.qR {T : bl} {e : TypeId} {u : U} (h : WT T (.aj e) u) : ∃ xs,u = .lst xs ∧ WR T e xs:=by
 cases h with
 | aj _ xs hm hs h=>exact ⟨xs,rfl,hm,fun x hx=>by
   obtain ⟨i,hi⟩:=qZ0 hx
   exact ⟨hs i x hi,fun j ct u ai hu=>h i j x u ct hi hu ai⟩⟩
theorem UI {n : Int} (h : (Lit.int .i64 n).wf = true) : -9223372036854775808 ≤ n ∧ n ≤ 9223372036854775807:=by
 simp only [Lit.wf,qQi,qQw] at h
 exact h
theorem zx.nil {T : bl} {us : List U} (h : zx T [] us) : us = []:=qZz h.1
theorem zx.cons {T : bl} {ct : CT} {ab : List CT} {us : List U} (h : zx T (ct :: ab) us) : ∃ u mC,us = u :: mC ∧ WT T ct u ∧ zx T ab mC:=by
 cases us with
 | nil=>have:=h.1; simp at this
 | cons u us=>exact ⟨u,us,rfl,h.2 0 ct u rfl rfl,by have:=h.1; simpa using this,fun j br u' h1 h2=>h.2 (j + 1) br u' (by simpa using h1) (by simpa using h2)⟩
end Go.Proofs.YtaghmjcfaplkiaaGreat.Eng
/- half -/
