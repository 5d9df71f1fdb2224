/- Plain lemmas on 'with enough rounds it answers r' and on lists: of no program. -/
import Derived.Test.YtoadeemcdakhcaaWWords
namespace Go.Proofs.Ytoadeemcdakhcaa.PL
open Go.RowKit Go.Proofs.YtoadeemcdakhcaaW.PrintWords
set_option linter.unusedVariables false

theorem Ev.pos {α : Type} {c : Prop} [Decidable c] {f g : Nat → Option α} {r : α} (h : c) (k : Ev f r) : Ev (fun n => if c then f n else g n) r :=
  Ev.congr (fun n => if_pos h) k
theorem Ev.neg {α : Type} {c : Prop} [Decidable c] {f g : Nat → Option α} {r : α} (h : ¬ c) (k : Ev g r) : Ev (fun n => if c then f n else g n) r :=
  Ev.congr (fun n => if_neg h) k
/-- A callee without rounds. -/
theorem Ev.bindE {α β : Type} {o : Option α} {f : Nat → α → Option β} {a : α} {r : β} (h : o = some a) (k : Ev (fun n => f n a) r) : Ev (fun n => o.bind (f n)) r :=
  Ev.congr (fun n => by rw [h]; rfl) k
theorem Ev.bindS {α β : Type} {f : Nat → α → Option β} {a : α} {r : β} (k : Ev (fun n => f n a) r) : Ev (fun n => (some a).bind (f n)) r := k
theorem Ev.uniq {α : Type} {g : Nat → Option α} {r s : α} (h : Ev g r) (h' : Ev g s) : r = s := by
  obtain ⟨a, ha⟩ := h
  obtain ⟨b, hb⟩ := h'
  have h1 := ha (max a b) (Nat.le_max_left _ _)
  have h2 := hb (max a b) (Nat.le_max_right _ _)
  rw [h1] at h2
  exact Option.some.inj h2
theorem Ev.eq {α : Type} {g : Nat → Option α} {r s : α} (h : Ev g r) (e : r = s) : Ev g s := e ▸ h
/-- A value that doesn't hang on the rounds. -/
theorem Ev.const {α : Type} {o : Option α} {r : α} (h : o = some r) : Ev (fun _ => o) r := ⟨0, fun _ _ => h⟩

theorem wrap64_nat {n : Nat} (h : n ≤ 9223372036854775806) : wrap64 ((n : Int) + 1) = ((n + 1 : Nat) : Int) := by unfold wrap64; omega
theorem wrap64_id {n : Int} (h : -9223372036854775808 ≤ n) (h' : n ≤ 9223372036854775807) : wrap64 n = n := by unfold wrap64; omega

/-- From the last round down to the first. -/
theorem down {P : Nat → Prop} (n : Nat) (h0 : P n) (h : ∀ i, i < n → P (i + 1) → P i) : ∀ i, i ≤ n → P i := by
  intro i hi
  obtain ⟨d, hd⟩ : ∃ d, n = i + d := ⟨n - i, by omega⟩
  clear hi
  induction d generalizing i with
  | zero => rw [Nat.add_zero] at hd; exact hd ▸ h0
  | succ d ih => exact h i (by omega) (ih (i + 1) (by omega))

/-- A loop that fills a row of its own, cell by cell. -/
theorem fill {α β : Type} (g : Nat → List β → Int → Option (List β)) (l : List α) (z : β) (cv : α → β)
    (hend : ∀ s, Ev (fun k => g k s (l.length : Int)) s)
    (hstep : ∀ (i : Nat) (s r : List β) (hi : i < l.length), s.length = l.length → Ev (fun k => g k (s.set i (cv l[i])) ((i + 1 : Nat) : Int)) r → Ev (fun k => g k s (i : Int)) r) :
    Ev (fun k => g k (List.replicate l.length z) 0) (l.map cv) := by
  have key : ∀ i, i ≤ l.length → Ev (fun k => g k ((l.take i).map cv ++ List.replicate (l.length - i) z) (i : Int)) (l.map cv) := by
    refine down l.length ?_ ?_
    · have := hend ((l.take l.length).map cv ++ List.replicate (l.length - l.length) z)
      simpa using this
    · intro i hi h
      refine hstep i _ _ hi (by simp; omega) ?_
      refine Ev.congr (fun k => ?_) h
      congr 1
      have e1 : (l.take (i + 1)).map cv = (l.take i).map cv ++ [cv l[i]] := by
        rw [List.take_succ_eq_append_getElem hi, List.map_append]; rfl
      have e2 : l.length - i = (l.length - (i + 1)) + 1 := by omega
      have e3 : ((l.take i).map cv).length = i := by simp; omega
      rw [e1, e2, List.replicate_succ, List.set_append_right _ _ (by omega), List.append_assoc, e3, Nat.sub_self]
      rfl
  have := key 0 (Nat.zero_le _)
  simpa using this

theorem getD_nat {α : Type} (l : List α) (z : α) (i : Nat) (h : i < l.length) : l.getD i z = l[i] := by
  rw [List.getD_eq_getElem?_getD, List.getElem?_eq_getElem h]; rfl
end Go.Proofs.Ytoadeemcdakhcaa.PL
