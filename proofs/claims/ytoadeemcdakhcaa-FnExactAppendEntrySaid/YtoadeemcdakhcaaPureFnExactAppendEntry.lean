/- AppendEntry gives what the reference gives, in memory of its own: the pure statement. -/
import Derived.Test.YtoadeemcdakhcaaHarFnExactAppendEntry
import Derived.Test.YtoadeemcdakhcaaOpFnExactAppendEntry
namespace Go.Proofs.Ytoadeemcdakhcaa.Pure
open Go.RowKit Go.Proofs.Ytoadeemcdakhcaa.PFnExactAppendEntry Go.Proofs.YtoadeemcdakhcaaW.PrintWords Go.Proofs.YtoadeemcdakhcaaW.PrintLast Go.Proofs.YtoadeemcdakhcaaW.PrintMore PL
theorem inr (n a b : Int) : impl_InRange.f n a b = spec_l1In.f n a b := rfl
theorem time (t : Int) : impl_IsTime.f t = spec_IsTime.f t := rfl
theorem modr (a b : Int) : impl_Mod.f a b = spec_Mod.f a b := rfl
theorem lastmark (l : List S28) : impl_LastMark.f l = spec_LastMark.f l := rfl
theorem ints (a b c d e f g h i : Int) : impl_EntryInts.f a b c d e f g h i = spec_EntryInts.f a b c d e f g h i := rfl
theorem l1In_some (n a b : Int) : ∃ r, spec_l1In.f n a b = some r := by unfold spec_l1In.f; split <;> exact ⟨_, rfl⟩
theorem time_some (t : Int) : ∃ r, spec_IsTime.f t = some r := by
  unfold spec_IsTime.f
  obtain ⟨r, hr⟩ := l1In_some t 0 10000
  exact ⟨r, by rw [hr]; rfl⟩
theorem mod_some (v : Int) : ∃ r, spec_Mod.f v 2147483647 = some r := by
  unfold spec_Mod.f spec_l1In.f
  rw [if_pos (by omega)]
  exact ⟨_, rfl⟩
theorem lm_some (l : List S28) (hl : l.length ≤ 1048576) : ∃ r, spec_LastMark.f l = some r := by
  unfold spec_LastMark.f
  by_cases h : (l.length : Int) = 0
  · exact ⟨_, if_pos h⟩
  · rw [wrap64_id (by omega) (by omega), if_neg h, if_pos (by omega), if_pos (by omega)]; exact ⟨_, rfl⟩
theorem hash_same (l : List Int) (hl : l.length ≤ 1048576) : Same (fun _ => True) (fun k => spec_Hash.f k l) (fun k => impl_Hash.f k l) := by
  unfold spec_Hash.f impl_Hash.f
  refine down (P := fun i => ∀ d, Same (fun _ => True) (fun k => spec_Hash.l0 k l d (i : Int)) (fun k => impl_Hash.l0 k d l (l.length : Int) (i : Int))) l.length ?_ ?_ 0 (Nat.zero_le _) 11
  · intro d
    exact Same.step (fun k => spec_Hash.l0.eq_2 _ _ _ _) (fun k => impl_Hash.l0.eq_2 _ _ _ _ _) (Same.neg2 (by omega) (by omega) (Same.now rfl trivial))
  · intro i hi h d
    refine Same.step (fun k => spec_Hash.l0.eq_2 _ _ _ _) (fun k => impl_Hash.l0.eq_2 _ _ _ _ _) (Same.pos2 (by omega) (by omega) (Same.pos2 (by omega) (by omega) (Same.posR (by omega) ?_)))
    obtain ⟨r, hr⟩ := mod_some (rd l (i : Int))
    refine Same.bind (Q := fun _ => True) (Same.of (Ev.const hr) (Ev.const hr) trivial) (fun a _ => ?_)
    rw [wrap64_nat (n := i) (by omega)]
    exact h _
/-- What AppendEntry answers: a copy and 'no', or the list with one more and 'yes'; 'no' where 60 are there. -/
def Appends (l : List S28) (r : List S28 × Bool) : Prop := (60 ≤ l.length → r.2 = false) ∧ ((r.2 = false ∧ r.1 = l) ∨ (r.2 = true ∧ ∃ x, r.1 = l ++ [x]))
theorem app_tail (l : List S28) (hl : l.length ≤ 1048576) (b : Bool) (c0 c1 c2 c3 c4 c5 c6 c7 c8 : Int) (hb : 60 ≤ l.length → b = true) :
    Same (Appends l) (fun k => spec_AppendEntry.j0 k l l b c0 c1 c2 c3 c4 c5 c6 c7 c8) (fun k => impl_AppendEntry.j0 k l l b c0 c1 c2 c3 c4 c5 c6 c7 c8) := by
  refine Same.step (fun k => spec_AppendEntry.j0.eq_2 _ _ _ _ _ _ _ _ _ _ _ _ _) (fun k => impl_AppendEntry.j0.eq_2 _ _ _ _ _ _ _ _ _ _ _ _ _) ?_
  refine Same.ite (fun h => Same.now rfl ⟨fun _ => rfl, .inl ⟨rfl, rfl⟩⟩) (fun h => ?_)
  obtain ⟨r, hr⟩ := lm_some l hl
  refine Same.bind (Q := fun _ => True) (Same.of (Ev.const hr) (Ev.const hr) trivial) (fun t _ => ?_)
  have hh := hash_same ([t] ++ [c0, c1, c2, c3, c4, c5, c6, c7]) (by simp)
  simp only [Option.bind_some, spec_EntryInts.f, impl_EntryInts.f]
  refine Same.pos2 (by simp) (by simp) (Same.bind hh (fun v _ => Same.pos2 (by omega) (by omega) (Same.now rfl ⟨fun h60 => ?_, .inr ⟨rfl, _, rfl⟩⟩)))
  exact absurd (hb h60) h
theorem app_same (l : List S28) (hl : l.length ≤ 1048576) (c0 c1 c2 c3 c4 c5 c6 c7 c8 : Int) :
    Same (Appends l) (fun k => spec_AppendEntry.f k l c0 c1 c2 c3 c4 c5 c6 c7 c8) (fun k => impl_AppendEntry.f k l c0 c1 c2 c3 c4 c5 c6 c7 c8) := by
  unfold spec_AppendEntry.f impl_AppendEntry.f
  simp only [Option.bind_some, List.nil_append, List.length_nil, Nat.zero_add]
  refine Same.pos2 (by omega) (by omega) (Same.ite (fun h => app_tail l hl _ _ _ _ _ _ _ _ _ _ (fun _ => rfl)) (fun h => ?_))
  have h60 : ∀ b : Bool, 60 ≤ l.length → b = true := fun b hb => absurd hb (by omega)
  obtain ⟨r, hr⟩ := l1In_some c0 1 3
  refine Same.bind (Q := fun _ => True) (Same.of (Ev.const hr) (Ev.const hr) trivial) (fun t _ => Same.ite (fun _ => ?_) (fun _ => app_tail l hl _ _ _ _ _ _ _ _ _ _ (h60 _)))
  obtain ⟨r, hr⟩ := time_some c1
  refine Same.bind (Q := fun _ => True) (Same.of (Ev.const hr) (Ev.const hr) trivial) (fun t _ => Same.ite (fun _ => ?_) (fun _ => app_tail l hl _ _ _ _ _ _ _ _ _ _ (h60 _)))
  refine Same.ite (fun h => ?_) (fun _ => app_tail l hl _ _ _ _ _ _ _ _ _ _ (h60 _))
  rw [wrap64_id (by omega) (by omega)]
  exact Same.pos2 (by omega) (by omega) (Same.pos2 (by omega) (by omega) (app_tail l hl _ _ _ _ _ _ _ _ _ _ (h60 _)))
theorem FnExactAppendEntry : ∀ (l0 : List (S25)) (x1 : S25), (l0.length ≤ maxLen ∧ ∀ x_ ∈ l0, V25 x_) → V25 x1 → ∃ k, laws_FnExactAppendEntry.f k l0 x1.f0 x1.f1 x1.f2 x1.f3 x1.f4 x1.f5 x1.f6 x1.f7 x1.f8 = some true := by
  intro l x ⟨hl, _⟩ _
  unfold maxLen at hl
  apply Ev.rounds
  unfold laws_FnExactAppendEntry.f
  refine Ev.bindE (sz_EntryS l _ hl (by omega) (by omega)) ?_
  by_cases h : (l.length : Int) ≤ 1048576
  · rw [if_pos h]
    have hto := to_EntryS l (by omega)
    have hla : (l.map cv25).length ≤ 1048576 := by simp; omega
    obtain ⟨⟨r, b⟩, hs, hp, _, hr⟩ := app_same (l.map cv25) hla x.f0 x.f1 x.f2 x.f3 x.f4 x.f5 x.f6 x.f7 x.f8
    have hrl : r.length ≤ 1048577 := by
      rcases hr with ⟨_, hr⟩ | ⟨_, y, hr⟩
      · have hr' : r = l.map cv25 := hr
        rw [hr']; omega
      · have hr' : r = l.map cv25 ++ [y] := hr
        rw [hr', List.length_append]; simp at hla ⊢; omega
    have er := eq_EntryS r (by omega)
    have ea := eq_EntryS (l.map cv25) (by omega)
    have ma := mark_EntryS (l.map cv25) 1 (by omega) (by omega) (by omega)
    have mr := mark_EntryS r 1 (by omega) (by omega) (by omega)
    have hh := held_EntryS 1 r.length (by omega) (by omega) (by omega)
    have bb : (b != b) = false := by simp
    refine Ev.neg (by omega) ?_
    refine Ev.bind hto ?_
    refine Ev.bindE rfl ?_
    refine Ev.bind hs ?_
    refine Ev.bind hto ?_
    refine Ev.bindE rfl ?_
    refine Ev.bind hp ?_
    refine Ev.bind er ?_
    refine Ev.pos rfl ?_
    refine Ev.step (fun k => laws_FnExactAppendEntry.j0.eq_2 _ _ _ _ _ _ _ _ _ _ _ _ _ _ _ _ _) ?_
    refine Ev.neg (by simp) ?_
    refine Ev.bind hto ?_
    refine Ev.bind ea ?_
    refine Ev.pos rfl ?_
    refine Ev.bind ma ?_
    refine Ev.neg (show ¬ (1 + 9 * ((l.map cv25).length : Int) < 0) by omega) ?_
    refine Ev.bind er ?_
    refine Ev.pos rfl ?_
    refine Ev.step (fun k => laws_FnExactAppendEntry.j1.eq_2 _ _ _ _ _ _ _ _ _ _ _ _ _ _ _) ?_
    refine Ev.neg (by simp) ?_
    refine Ev.bind mr ?_
    refine Ev.bind hh ?_
    refine Ev.neg (by omega) ?_
    refine Ev.pos rfl ?_
    refine Ev.bind hto ?_
    refine Ev.bindE rfl ?_
    refine Ev.bind hp ?_
    refine Ev.bind er ?_
    refine Ev.pos rfl ?_
    refine Ev.step (fun k => laws_FnExactAppendEntry.j2.eq_2 _ _ _ _) ?_
    refine Ev.neg (by simp) ?_
    refine Ev.bind hh ?_
    refine Ev.neg (by omega) ?_
    refine Ev.pos rfl ?_
    exact Ev.now _
  · rw [if_neg h]
    exact Ev.pos (by omega) (Ev.now _)
end Go.Proofs.Ytoadeemcdakhcaa.Pure
