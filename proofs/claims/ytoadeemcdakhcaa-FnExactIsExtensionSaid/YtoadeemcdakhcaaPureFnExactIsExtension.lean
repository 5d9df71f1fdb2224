/- IsExtension answers as the reference answers: the pure statement. -/
import Derived.Test.YtoadeemcdakhcaaHarFnExactIsExtension
import Derived.Test.YtoadeemcdakhcaaOpFnExactIsExtension
namespace Go.Proofs.Ytoadeemcdakhcaa.Pure
open Go.RowKit Go.Proofs.Ytoadeemcdakhcaa.PFnExactIsExtension Go.Proofs.YtoadeemcdakhcaaW.PrintWords Go.Proofs.YtoadeemcdakhcaaW.PrintLast Go.Proofs.YtoadeemcdakhcaaW.PrintMore PL
theorem ext_same (l m : List S28) (hl : l.length ≤ 1048576) : Same (fun _ => True) (fun k => spec_IsExtension.f k l m) (fun k => impl_IsExtension.f k l m) := by
  unfold spec_IsExtension.f impl_IsExtension.f
  by_cases hc : (l.length : Int) ≤ (m.length : Int)
  · have hx : ((m.take ((l.length : Int)).toNat).length : Int) = (l.length : Int) := by simp; omega
    have key : Same (fun _ => True) (fun k => spec_IsExtension.l0 k l m 0) (fun k => impl_Entry.l0 k l (m.take ((l.length : Int)).toNat) (l.length : Int) 0) := by
      refine down (P := fun i => Same (fun _ => True) (fun k => spec_IsExtension.l0 k l m (i : Int)) (fun k => impl_Entry.l0 k l (m.take ((l.length : Int)).toNat) (l.length : Int) (i : Int))) l.length ?_ ?_ 0 (Nat.zero_le _)
      · exact Same.step (fun k => spec_IsExtension.l0.eq_2 _ _ _ _) (fun k => impl_Entry.l0.eq_2 _ _ _ _ _) (Same.neg2 (by omega) (by omega) (Same.now rfl trivial))
      · intro i hi h
        have e : rd_T28 (m.take ((l.length : Int)).toNat) (i : Int) = rd_T28 m (i : Int) := by
          rw [rdn28 _ i (by omega), rdn28 _ i (by omega)]; simp
        refine Same.step (fun k => spec_IsExtension.l0.eq_2 _ _ _ _) (fun k => impl_Entry.l0.eq_2 _ _ _ _ _) (Same.pos2 (by omega) (by omega) (Same.pos2 (by omega) (by omega) (Same.pos2 (by omega) (by omega) (Same.posR (by omega) ?_))))
        rw [e, wrap64_nat (n := i) (by omega)]
        exact Same.ite (fun _ => Same.now rfl trivial) (fun _ => h)
    obtain ⟨r, h1, h2, _⟩ := key
    refine Same.negL (by omega) (Same.posR hc (Same.posR (by omega) (Same.of h1 (Ev.bind ?_ (Ev.now _)) trivial)))
    unfold impl_Entry.f
    exact Ev.pos hx.symm h2
  · exact Same.posL (by omega) (Same.negR hc (Same.now rfl trivial))
theorem FnExactIsExtension : ∀ (l0 : List (S25)) (l1 : List (S25)), (l0.length ≤ maxLen ∧ ∀ x_ ∈ l0, V25 x_) → (l1.length ≤ maxLen ∧ ∀ x_ ∈ l1, V25 x_) → ∃ k, laws_FnExactIsExtension.f k l0 l1 = some true := by
  intro l m ⟨hl, _⟩ ⟨hm, _⟩
  unfold maxLen at hl hm
  apply Ev.rounds
  unfold laws_FnExactIsExtension.f
  refine Ev.bindE (sz_EntryS l _ hl (by omega) (by omega)) ?_
  by_cases h : (l.length : Int) ≤ 1048576
  · rw [if_pos h]
    refine Ev.neg (by omega) (Ev.bindE (sz_EntryS m _ hm (by omega) (by omega)) ?_)
    by_cases h' : (m.length : Int) ≤ 1048576 - l.length
    · rw [if_pos h']
      refine Ev.neg (by omega) ?_
      have hto := to_EntryS l (by omega)
      have hto' := to_EntryS m (by omega)
      obtain ⟨r, hs, hp, _⟩ := ext_same (l.map cv25) (m.map cv25) (by simp; omega)
      exact Ev.bind hto (Ev.bind hto' (Ev.bind hs (Ev.bind hto (Ev.bind hto' (Ev.bind hp (Ev.neg (by simp) (Ev.bind hto (Ev.bind (eq_EntryS _ (by simp; omega)) (Ev.pos rfl (Ev.bind hto' (Ev.bind (eq_EntryS _ (by simp; omega)) (Ev.pos rfl (Ev.now _)))))))))))))
    · rw [if_neg h']
      exact Ev.pos (by omega) (Ev.now _)
  · rw [if_neg h]
    exact Ev.pos (by omega) (Ev.now _)
end Go.Proofs.Ytoadeemcdakhcaa.Pure
