/- CountEntries counts as the reference counts: the pure statement. -/
import Derived.Test.YtoadeemcdakhcaaHarFnExactCountEntries
import Derived.Test.YtoadeemcdakhcaaOpFnExactCountEntries
namespace Go.Proofs.Ytoadeemcdakhcaa.Pure
open Go.RowKit Go.Proofs.Ytoadeemcdakhcaa.PFnExactCountEntries Go.Proofs.YtoadeemcdakhcaaW.PrintWords Go.Proofs.YtoadeemcdakhcaaW.PrintLast Go.Proofs.YtoadeemcdakhcaaW.PrintMore PL
theorem count_same (l : List S28) (a b : Int) (hl : l.length ≤ 1048576) : Same (fun _ => True) (fun k => spec_CountEntries.f k l a b) (fun k => impl_CountEntries.f k l a b) := by
  unfold spec_CountEntries.f impl_CountEntries.f
  refine down (P := fun i => ∀ c, Same (fun _ => True) (fun k => spec_CountEntries.l0 k l a b c (i : Int)) (fun k => impl_CountEntries.l0 k a b c l (l.length : Int) (i : Int))) l.length ?_ ?_ 0 (Nat.zero_le _) 0
  · intro c
    exact Same.step (fun k => spec_CountEntries.l0.eq_2 _ _ _ _ _ _) (fun k => impl_CountEntries.l0.eq_2 _ _ _ _ _ _ _) (Same.neg2 (by omega) (by omega) (Same.now rfl trivial))
  · intro i hi h c
    refine Same.step (fun k => spec_CountEntries.l0.eq_2 _ _ _ _ _ _) (fun k => impl_CountEntries.l0.eq_2 _ _ _ _ _ _ _) (Same.pos2 (by omega) (by omega) (Same.pos2 (by omega) (by omega) (Same.posR (by omega) ?_)))
    rw [wrap64_nat (n := i) (by omega)]
    exact Same.ite (fun _ => Same.ite (fun _ => h _) (fun _ => h _)) (fun _ => h _)
theorem FnExactCountEntries : ∀ (l0 : List (S25)) (a1 : Int) (a2 : Int), (l0.length ≤ maxLen ∧ ∀ x_ ∈ l0, V25 x_) → (Lit.int .i64 a1).wf = true → (Lit.int .i64 a2).wf = true → ∃ k, laws_FnExactCountEntries.f k l0 a1 a2 = some true := by
  intro l a b ⟨hl, _⟩ _ _
  unfold maxLen at hl
  apply Ev.rounds
  unfold laws_FnExactCountEntries.f
  refine Ev.bindE (sz_EntryS l _ hl (by omega) (by omega)) ?_
  by_cases h : (l.length : Int) ≤ 1048576
  · rw [if_pos h]
    refine Ev.neg (by omega) ?_
    have hto := to_EntryS l (by omega)
    obtain ⟨r, hs, hp, _⟩ := count_same (l.map cv25) a b (by simp; omega)
    exact Ev.bind hto (Ev.bind hs (Ev.bind hto (Ev.bind hp (Ev.pos rfl (Ev.bind hto (Ev.bind (eq_EntryS _ (by simp; omega)) (Ev.pos rfl (Ev.now _))))))))
  · rw [if_neg h]
    exact Ev.pos (by omega) (Ev.now _)
end Go.Proofs.Ytoadeemcdakhcaa.Pure
