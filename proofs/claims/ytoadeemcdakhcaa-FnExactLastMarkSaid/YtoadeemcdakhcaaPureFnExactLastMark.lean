/- FnExactLastMark: the pure statement. -/
import Derived.Test.YtoadeemcdakhcaaLib
import Derived.Test.YtoadeemcdakhcaaPFnExactLastMarkx2
import Derived.Test.YtoadeemcdakhcaaOpFnExactLastMark
namespace Go.Proofs.Ytoadeemcdakhcaa.Pure
open Go.RowKit Go.Proofs.Ytoadeemcdakhcaa.PFnExactLastMark Go.Proofs.YtoadeemcdakhcaaW.PrintWords Go.Proofs.YtoadeemcdakhcaaW.PrintLast Go.Proofs.YtoadeemcdakhcaaW.PrintMore PL

def cv25 (x : S25) : S28 := ⟨x.f0, x.f1, x.f2, x.f3, x.f4, x.f5, x.f6, x.f7, x.f8⟩
theorem rd25 (l : List S25) (i : Nat) (h : i < l.length) : rd_T25 l (i : Int) = l[i] := by unfold rd_T25; exact getD_nat l z25 i h
theorem rd28 (l : List S28) (i : Nat) (h : i < l.length) : rd_T28 l (i : Int) = l[i] := by unfold rd_T28; exact getD_nat l z28 i h
theorem sz25 (l : List S25) (n : Int) (hl : l.length ≤ 9223372036854775807) (h0 : 0 ≤ n) (h1 : n ≤ 1048576) : laws_szEntryS.f l n = some (if (l.length : Int) ≤ n then n - l.length else -1) := by
  unfold laws_szEntryS.f
  rw [wrap64_id (by omega) (by omega)]
  by_cases h : (l.length : Int) ≤ n
  · rw [if_neg (by omega), if_pos h]
  · rw [if_pos (by omega), if_neg h]
theorem to25 (l : List S25) (hl : l.length ≤ 1048576) : Ev (fun k => laws_toEntryS.f k l) (l.map cv25) := by
  unfold laws_toEntryS.f
  refine Ev.pos (by omega) (Ev.pos (by omega) ?_)
  refine fill (fun k s i => laws_toEntryS.l0 k l s i) l z28 cv25 (fun s => ?_) (fun i s r hi hs h => ?_)
  · exact Ev.step (fun k => laws_toEntryS.l0.eq_2 _ _ _ _) (Ev.neg (by omega) (Ev.now _))
  · refine Ev.step (fun k => laws_toEntryS.l0.eq_2 _ _ _ _) (Ev.pos (by omega) (Ev.pos (by omega) (Ev.bindE rfl (Ev.pos (by omega) ?_))))
    rw [wrap64_nat (by omega), rd25 l i hi]
    exact h
theorem eq28 (l : List S28) (hl : l.length ≤ 9223372036854775806) : Ev (fun k => laws_eqEntryS.f k l l) true := by
  unfold laws_eqEntryS.f
  refine Ev.pos rfl ?_
  refine down (P := fun i => Ev (fun k => laws_eqEntryS.l0 k l l (i : Int)) true) l.length ?_ ?_ 0 (Nat.zero_le _)
  · exact Ev.step (fun k => laws_eqEntryS.l0.eq_2 _ _ _ _) (Ev.neg (by omega) (Ev.now _))
  · intro i hi h
    refine Ev.step (fun k => laws_eqEntryS.l0.eq_2 _ _ _ _) (Ev.pos (by omega) (Ev.pos (by omega) (Ev.pos (by omega) (Ev.bindE (a := true) ?_ (Ev.pos rfl ?_)))))
    · unfold laws_eqEntry.f
      simp
    · rw [wrap64_nat (by omega)]
      exact h

theorem lm (l : List S28) : impl_LastMark.f l = spec_LastMark.f l := rfl
theorem lm_some (l : List S28) (hl : l.length ≤ 1048576) : ∃ r, spec_LastMark.f l = some r := by
  unfold spec_LastMark.f
  by_cases h : (l.length : Int) = 0
  · exact ⟨_, if_pos h⟩
  · rw [wrap64_id (by omega) (by omega), if_neg h, if_pos (by omega), if_pos (by omega)]; exact ⟨_, rfl⟩

theorem FnExactLastMark : ∀ (l0 : List (S25)), (l0.length ≤ maxLen ∧ ∀ x_ ∈ l0, V25 x_) → ∃ k, laws_FnExactLastMark.f k l0 = some true := by
  intro l ⟨hl, _⟩
  unfold maxLen at hl
  apply Ev.rounds
  unfold laws_FnExactLastMark.f
  refine Ev.bindE (sz25 l _ hl (by omega) (by omega)) ?_
  by_cases h : (l.length : Int) ≤ 1048576
  · rw [if_pos h]
    refine Ev.neg (by omega) ?_
    have hto := to25 l (by omega)
    obtain ⟨r, hr⟩ := lm_some (l.map cv25) (by simp; omega)
    refine Ev.bind hto (Ev.bindE hr (Ev.bind hto (Ev.bindE ((lm _).trans hr) (Ev.pos rfl (Ev.bind hto (Ev.bind (eq28 _ (by simp; omega)) (Ev.pos rfl (Ev.now _))))))))
  · rw [if_neg h]
    exact Ev.pos (by omega) (Ev.now _)

end Go.Proofs.Ytoadeemcdakhcaa.Pure
