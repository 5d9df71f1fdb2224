/- JoinTrails gives what the reference gives, in memory of its own: the pure statement. -/
import Derived.Test.YtoadeemcdakhcaaHarFnExactJoinTrails
import Derived.Test.YtoadeemcdakhcaaOpFnExactJoinTrails
namespace Go.Proofs.Ytoadeemcdakhcaa.Pure
open Go.RowKit Go.Proofs.Ytoadeemcdakhcaa.PFnExactJoinTrails Go.Proofs.YtoadeemcdakhcaaW.PrintWords Go.Proofs.YtoadeemcdakhcaaW.PrintLast Go.Proofs.YtoadeemcdakhcaaW.PrintMore PL
theorem rd_drop (l : List S28) (i : Nat) (h : i < l.length) : rd_T28 (l.drop i) 0 = rd_T28 l (i : Int) := by
  rw [rdn28 l i h]
  have : rd_T28 (l.drop i) ((0 : Nat) : Int) = (l.drop i)[0]'(by rw [List.length_drop]; omega) := rdn28 _ 0 (by rw [List.length_drop]; omega)
  simpa using this
theorem drop_one (l : List S28) (i : Nat) : (l.drop i).drop 1 = l.drop (i + 1) := by rw [List.drop_drop]
theorem join_same (a b : List S28) (ha : a.length ≤ 1048576) (hb : b.length ≤ 1048576) (d : Nat) : ∀ (i j : Nat) (out : List S28), i ≤ a.length → j ≤ b.length → (a.length - i) + (b.length - j) = d → out.length + d ≤ 2097152 →
    Same (fun r => r.length ≤ 2097152) (fun k => spec_JoinTrails.l0 k a b out (i : Int) (j : Int)) (fun k => impl_JoinTrails.l0 k (a.drop i) (b.drop j) out) := by
  induction d with
  | zero =>
    intro i j out hi hj hd ho
    have la : (a.drop i).length = a.length - i := List.length_drop
    have lb : (b.drop j).length = b.length - j := List.length_drop
    refine Same.step (fun k => spec_JoinTrails.l0.eq_2 _ _ _ _ _ _) (fun k => impl_JoinTrails.l0.eq_2 _ _ _ _) (Same.neg2 (by omega) (by omega) ?_)
    rw [decide_eq_false (by omega), decide_eq_false (by omega)]
    exact Same.step (fun k => spec_JoinTrails.j1.eq_2 _ _ _ _ _ _ _) (fun k => impl_JoinTrails.j1.eq_2 _ _ _ _ _) (Same.neg2 (by decide) (by decide) (Same.now rfl (by omega)))
  | succ d ih =>
    intro i j out hi hj hd ho
    have la : (a.drop i).length = a.length - i := List.length_drop
    have lb : (b.drop j).length = b.length - j := List.length_drop
    have stepA : i < a.length → Same (fun r => r.length ≤ 2097152) (fun k => spec_JoinTrails.l0 k a b (out ++ [(⟨(rd_T28 a i).f0, (rd_T28 a i).f1, (rd_T28 a i).f2, (rd_T28 a i).f3, (rd_T28 a i).f4, (rd_T28 a i).f5, (rd_T28 a i).f6, (rd_T28 a i).f7, (rd_T28 a i).f8⟩ : S28)]) (wrap64 ((i : Int) + 1)) (j : Int))
        (fun k => impl_JoinTrails.l0 k ((a.drop i).drop 1) (b.drop j) (out ++ [(⟨(rd_T28 (a.drop i) 0).f0, (rd_T28 (a.drop i) 0).f1, (rd_T28 (a.drop i) 0).f2, (rd_T28 (a.drop i) 0).f3, (rd_T28 (a.drop i) 0).f4, (rd_T28 (a.drop i) 0).f5, (rd_T28 (a.drop i) 0).f6, (rd_T28 (a.drop i) 0).f7, (rd_T28 (a.drop i) 0).f8⟩ : S28)])) := by
      intro h
      rw [wrap64_nat (by omega), rd_drop a i h, drop_one]
      exact ih (i + 1) j _ (by omega) hj (by omega) (by simp; omega)
    have stepB : j < b.length → Same (fun r => r.length ≤ 2097152) (fun k => spec_JoinTrails.l0 k a b (out ++ [(⟨(rd_T28 b j).f0, (rd_T28 b j).f1, (rd_T28 b j).f2, (rd_T28 b j).f3, (rd_T28 b j).f4, (rd_T28 b j).f5, (rd_T28 b j).f6, (rd_T28 b j).f7, (rd_T28 b j).f8⟩ : S28)]) (i : Int) (wrap64 ((j : Int) + 1)))
        (fun k => impl_JoinTrails.l0 k (a.drop i) ((b.drop j).drop 1) (out ++ [(⟨(rd_T28 (b.drop j) 0).f0, (rd_T28 (b.drop j) 0).f1, (rd_T28 (b.drop j) 0).f2, (rd_T28 (b.drop j) 0).f3, (rd_T28 (b.drop j) 0).f4, (rd_T28 (b.drop j) 0).f5, (rd_T28 (b.drop j) 0).f6, (rd_T28 (b.drop j) 0).f7, (rd_T28 (b.drop j) 0).f8⟩ : S28)])) := by
      intro h
      rw [wrap64_nat (by omega), rd_drop b j h, drop_one]
      exact ih i (j + 1) _ hi (by omega) (by omega) (by simp; omega)
    by_cases h1 : i < a.length
    · refine Same.step (fun k => spec_JoinTrails.l0.eq_2 _ _ _ _ _ _) (fun k => impl_JoinTrails.l0.eq_2 _ _ _ _) (Same.pos2 (by omega) (by omega) ?_)
      refine Same.step (fun k => spec_JoinTrails.j1.eq_2 _ _ _ _ _ _ _) (fun k => impl_JoinTrails.j1.eq_2 _ _ _ _ _) (Same.pos2 rfl rfl ?_)
      refine Same.ite2 (by omega) (fun h2 => ?_) (fun h2 => ?_)
      · exact Same.pos2 (by omega) (by omega) (Same.pos2 (by omega) (by omega) (Same.pos2 (by omega) (by omega) (stepA h1)))
      · have h3 : j < b.length := by omega
        refine Same.pos2 (by omega) (by omega) (Same.pos2 (by omega) (by omega) (Same.pos2 (by omega) (by omega) (Same.posL (by omega) ?_)))
        refine Same.ite2 (by rw [rd_drop a i h1, rd_drop b j h3]) (fun _ => ?_) (fun _ => ?_)
        · exact Same.pos2 (by omega) (by omega) (Same.posR (by omega) (stepA h1))
        · exact Same.pos2 (by omega) (by omega) (Same.posR (by omega) (stepB h3))
    · have h3 : j < b.length := by omega
      refine Same.step (fun k => spec_JoinTrails.l0.eq_2 _ _ _ _ _ _) (fun k => impl_JoinTrails.l0.eq_2 _ _ _ _) (Same.neg2 (by omega) (by omega) ?_)
      rw [decide_eq_true (by omega), decide_eq_true (by omega)]
      refine Same.step (fun k => spec_JoinTrails.j1.eq_2 _ _ _ _ _ _ _) (fun k => impl_JoinTrails.j1.eq_2 _ _ _ _ _) (Same.pos2 rfl rfl ?_)
      exact Same.neg2 (by omega) (by omega) (Same.neg2 (by omega) (by omega) (Same.pos2 (by omega) (by omega) (Same.pos2 (by omega) (by omega) (Same.pos2 (by omega) (by omega) (stepB h3)))))
theorem FnExactJoinTrails : ∀ (l0 : List (S25)) (l1 : List (S25)), (l0.length ≤ maxLen ∧ ∀ x_ ∈ l0, V25 x_) → (l1.length ≤ maxLen ∧ ∀ x_ ∈ l1, V25 x_) → ∃ k, laws_FnExactJoinTrails.f k l0 l1 = some true := by
  intro l m ⟨hl, _⟩ ⟨hm, _⟩
  unfold maxLen at hl hm
  apply Ev.rounds
  unfold laws_FnExactJoinTrails.f
  refine Ev.bindE (sz_EntryS l _ hl (by omega) (by omega)) ?_
  by_cases h : (l.length : Int) ≤ 1048576
  · rw [if_pos h]
    refine Ev.neg (by omega) (Ev.bindE (sz_EntryS m _ hm (by omega) (by omega)) ?_)
    by_cases h' : (m.length : Int) ≤ 1048576 - l.length
    · rw [if_pos h']
      refine Ev.neg (by omega) ?_
      have hto := to_EntryS l (by omega)
      have hto' := to_EntryS m (by omega)
      have hla : (l.map cv25).length ≤ 1048576 := by simp; omega
      have hlb : (m.map cv25).length ≤ 1048576 := by simp; omega
      obtain ⟨r, hs, hp, hr⟩ := join_same (l.map cv25) (m.map cv25) hla hlb _ 0 0 [] (Nat.zero_le _) (Nat.zero_le _) rfl (by simp; omega)
      have hs' : Ev (fun k => spec_JoinTrails.f k (l.map cv25) (m.map cv25)) r := hs
      have hp' : Ev (fun k => impl_JoinTrails.f k (l.map cv25) (m.map cv25)) r := hp
      have er := eq_EntryS r (by omega)
      have ea := eq_EntryS (l.map cv25) (by omega)
      have eb := eq_EntryS (m.map cv25) (by omega)
      have ma := mark_EntryS (l.map cv25) 1 (by omega) (by omega) (by omega)
      have mb := mark_EntryS (m.map cv25) (1 + 9 * ((l.map cv25).length : Int)) (by omega) (by omega) (by omega)
      have mr := mark_EntryS r 1 (by omega) (by omega) (by omega)
      have hh := held_EntryS 1 r.length (by omega) (by omega) (by omega)
      refine Ev.bind hto ?_
      refine Ev.bind hto' ?_
      refine Ev.bind hs' ?_
      refine Ev.bind hto ?_
      refine Ev.bind hto' ?_
      refine Ev.bind hp' ?_
      refine Ev.bind er ?_
      refine Ev.pos rfl ?_
      refine Ev.bind hto ?_
      refine Ev.bind ea ?_
      refine Ev.pos rfl ?_
      refine Ev.bind hto' ?_
      refine Ev.bind eb ?_
      refine Ev.pos rfl ?_
      refine Ev.bind ma ?_
      refine Ev.bind mb ?_
      refine Ev.neg (show ¬ ((1 + 9 * ((l.map cv25).length : Int)) + 9 * ((m.map cv25).length : Int) < 0) by omega) ?_
      refine Ev.bind er ?_
      refine Ev.step (fun k => laws_FnExactJoinTrails.j0.eq_2 _ _ _ _ _ _) ?_
      refine Ev.neg (by decide) ?_
      refine Ev.bind mr ?_
      refine Ev.bind hh ?_
      refine Ev.neg (by omega) ?_
      refine Ev.pos rfl ?_
      refine Ev.bind hto ?_
      refine Ev.bind hto' ?_
      refine Ev.bind hp' ?_
      refine Ev.bind er ?_
      refine Ev.pos rfl ?_
      refine Ev.bind hh ?_
      refine Ev.neg (by omega) ?_
      refine Ev.pos rfl ?_
      exact Ev.now _
    · rw [if_neg h']
      exact Ev.pos (by omega) (Ev.now _)
  · rw [if_neg h]
    exact Ev.pos (by omega) (Ev.now _)
end Go.Proofs.Ytoadeemcdakhcaa.Pure
