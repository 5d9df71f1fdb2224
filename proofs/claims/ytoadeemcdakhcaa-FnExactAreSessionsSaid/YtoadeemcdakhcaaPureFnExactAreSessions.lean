/- AreSessions answers as the reference answers: the pure statement. -/
import Derived.Test.YtoadeemcdakhcaaHarFnExactAreSessions
import Derived.Test.YtoadeemcdakhcaaOpFnExactAreSessions
namespace Go.Proofs.Ytoadeemcdakhcaa.Pure
open Go.RowKit Go.Proofs.Ytoadeemcdakhcaa.PFnExactAreSessions Go.Proofs.YtoadeemcdakhcaaW.PrintWords Go.Proofs.YtoadeemcdakhcaaW.PrintLast Go.Proofs.YtoadeemcdakhcaaW.PrintMore PL
theorem inr (n a b : Int) : impl_InRange.f n a b = spec_l1In.f n a b := rfl
theorem time (t : Int) : impl_IsTime.f t = spec_IsTime.f t := rfl
theorem isname (t : Int) : impl_IsName.f t = spec_IsName.f t := rfl
theorem kind (t k : Int) : impl_HasKind.f t k = spec_HasKind.f t k := by
  unfold impl_HasKind.f spec_HasKind.f impl_KindOf.f
  rw [isname]
  rcases h : spec_IsName.f t with _ | b
  · rfl
  · cases b <;> simp
theorem request (a b c d e f : Int) : impl_IsRequest.f a b c d e f = spec_IsRequest.f a b c d e f := by
  unfold impl_IsRequest.f spec_IsRequest.f
  simp only [kind, inr, time]
theorem l1In_some (n a b : Int) : ∃ r, spec_l1In.f n a b = some r := by unfold spec_l1In.f; split <;> exact ⟨_, rfl⟩
theorem kind_some (t k : Int) : ∃ r, spec_HasKind.f t k = some r := by
  unfold spec_HasKind.f spec_IsName.f
  obtain ⟨r, hr⟩ := l1In_some t 10 49
  rw [hr]
  cases r <;> exact ⟨_, rfl⟩
theorem request_some (a b c d e f : Int) : ∃ r, spec_IsRequest.f a b c d e f = some r := by
  unfold spec_IsRequest.f spec_IsTime.f
  obtain ⟨r1, h1⟩ := kind_some a 1
  obtain ⟨r2, h2⟩ := kind_some b 2
  obtain ⟨r3, h3⟩ := kind_some c 3
  obtain ⟨r4, h4⟩ := kind_some e 4
  obtain ⟨r5, h5⟩ := l1In_some d 0 5
  obtain ⟨r6, h6⟩ := l1In_some f 0 10000
  rw [h1, h2, h3, h4, h5, h6]
  cases r1 <;> cases r2 <;> cases r3 <;> cases r4 <;> cases r5 <;> exact ⟨_, rfl⟩
theorem sessions_same (l : List S74) (hl : l.length ≤ 1048576) : Same (fun _ => True) (fun k => spec_AreSessions.f k l) (fun k => impl_AreSessions.f k l) := by
  unfold spec_AreSessions.f impl_AreSessions.f
  refine down (P := fun i => Same (fun _ => True) (fun k => spec_AreSessions.l0 k l (i : Int)) (fun k => impl_AreSessions.l0 k l l (l.length : Int) (i : Int))) l.length ?_ ?_ 0 (Nat.zero_le _)
  · exact Same.step (fun k => spec_AreSessions.l0.eq_2 _ _ _) (fun k => impl_AreSessions.l0.eq_2 _ _ _ _ _) (Same.neg2 (by omega) (by omega) (Same.now rfl trivial))
  · intro i hi h
    refine Same.step (fun k => spec_AreSessions.l0.eq_2 _ _ _) (fun k => impl_AreSessions.l0.eq_2 _ _ _ _ _) (Same.pos2 (by omega) (by omega) (Same.pos2 (by omega) (by omega) (Same.posR (by omega) ?_)))
    simp only [request]
    rw [wrap64_nat (n := i) (by omega)]
    refine Same.ite (fun _ => Same.ite (fun _ => Same.now rfl trivial) (fun _ => Same.ite (fun _ => Same.now rfl trivial) (fun _ => ?_))) (fun _ => Same.now rfl trivial)
    obtain ⟨r, hr⟩ := request_some (rd_T74 l i).f3.f0 (rd_T74 l i).f3.f1 (rd_T74 l i).f3.f2 (rd_T74 l i).f3.f3 (rd_T74 l i).f3.f4 (rd_T74 l i).f3.f5
    refine Same.bind (Q := fun _ => True) (Same.of (Ev.const hr) (Ev.const hr) trivial) (fun a _ => ?_)
    exact Same.ite (fun _ => h) (fun _ => Same.now rfl trivial)
theorem FnExactAreSessions : ∀ (l0 : List (S79)), (l0.length ≤ maxLen ∧ ∀ x_ ∈ l0, V79 x_) → ∃ k, laws_FnExactAreSessions.f k l0 = some true := by
  intro l ⟨hl, _⟩
  unfold maxLen at hl
  apply Ev.rounds
  unfold laws_FnExactAreSessions.f
  refine Ev.bindE (sz_SessionS l _ hl (by omega) (by omega)) ?_
  by_cases h : (l.length : Int) ≤ 1048576
  · rw [if_pos h]
    refine Ev.neg (by omega) ?_
    have hto := to_SessionS l (by omega)
    obtain ⟨r, hs, hp, _⟩ := sessions_same (l.map cv79) (by simp; omega)
    exact Ev.bind hto (Ev.bind hs (Ev.bind hto (Ev.bind hp (Ev.neg (by simp) (Ev.bind hto (Ev.bind (eq_SessionS _ (by simp; omega)) (Ev.pos rfl (Ev.now _))))))))
  · rw [if_neg h]
    exact Ev.pos (by omega) (Ev.now _)
end Go.Proofs.Ytoadeemcdakhcaa.Pure
