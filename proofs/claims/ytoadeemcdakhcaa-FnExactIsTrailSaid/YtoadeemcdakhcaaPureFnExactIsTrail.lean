/- IsTrail answers as the reference answers: the pure statement. -/
import Derived.Test.YtoadeemcdakhcaaHarFnExactIsTrail
import Derived.Test.YtoadeemcdakhcaaOpFnExactIsTrail
namespace Go.Proofs.Ytoadeemcdakhcaa.Pure
open Go.RowKit Go.Proofs.Ytoadeemcdakhcaa.PFnExactIsTrail Go.Proofs.YtoadeemcdakhcaaW.PrintWords Go.Proofs.YtoadeemcdakhcaaW.PrintLast Go.Proofs.YtoadeemcdakhcaaW.PrintMore PL
theorem inr (n a b : Int) : impl_InRange.f n a b = spec_l1In.f n a b := rfl
theorem time (t : Int) : impl_IsTime.f t = spec_IsTime.f t := rfl
theorem modr (a b : Int) : impl_Mod.f a b = spec_Mod.f a b := rfl
theorem lastmark (l : List S28) : impl_LastMark.f l = spec_LastMark.f l := rfl
theorem ints (a b c d e f g h i : Int) : impl_EntryInts.f a b c d e f g h i = spec_EntryInts.f a b c d e f g h i := rfl
theorem l1In_some (n a b : Int) : ∃ r, spec_l1In.f n a b = some r := by unfold spec_l1In.f; split <;> exact ⟨_, rfl⟩
theorem time_some (t : Int) : ∃ r, spec_IsTime.f t = some r := by
  unfold spec_IsTime.f
  obtain ⟨r, hr⟩ := l1In_some t 0 10000
  exact ⟨r, by rw [hr]; rfl⟩
theorem mod_some (v : Int) : ∃ r, spec_Mod.f v 2147483647 = some r := by
  unfold spec_Mod.f spec_l1In.f
  rw [if_pos (by omega)]
  exact ⟨_, rfl⟩
theorem lm_some (l : List S28) (hl : l.length ≤ 1048576) : ∃ r, spec_LastMark.f l = some r := by
  unfold spec_LastMark.f
  by_cases h : (l.length : Int) = 0
  · exact ⟨_, if_pos h⟩
  · rw [wrap64_id (by omega) (by omega), if_neg h, if_pos (by omega), if_pos (by omega)]; exact ⟨_, rfl⟩
theorem hash_same (l : List Int) (hl : l.length ≤ 1048576) : Same (fun _ => True) (fun k => spec_Hash.f k l) (fun k => impl_Hash.f k l) := by
  unfold spec_Hash.f impl_Hash.f
  refine down (P := fun i => ∀ d, Same (fun _ => True) (fun k => spec_Hash.l0 k l d (i : Int)) (fun k => impl_Hash.l0 k d l (l.length : Int) (i : Int))) l.length ?_ ?_ 0 (Nat.zero_le _) 11
  · intro d
    exact Same.step (fun k => spec_Hash.l0.eq_2 _ _ _ _) (fun k => impl_Hash.l0.eq_2 _ _ _ _ _) (Same.neg2 (by omega) (by omega) (Same.now rfl trivial))
  · intro i hi h d
    refine Same.step (fun k => spec_Hash.l0.eq_2 _ _ _ _) (fun k => impl_Hash.l0.eq_2 _ _ _ _ _) (Same.pos2 (by omega) (by omega) (Same.pos2 (by omega) (by omega) (Same.posR (by omega) ?_)))
    obtain ⟨r, hr⟩ := mod_some (rd l (i : Int))
    refine Same.bind (Q := fun _ => True) (Same.of (Ev.const hr) (Ev.const hr) trivial) (fun a _ => ?_)
    rw [wrap64_nat (n := i) (by omega)]
    exact h _
/-- What AppendEntry answers: a copy and 'no', or the list with one more and 'yes'; 'no' where 60 are there. -/
def Appends (l : List S28) (r : List S28 × Bool) : Prop := (60 ≤ l.length → r.2 = false) ∧ ((r.2 = false ∧ r.1 = l) ∨ (r.2 = true ∧ ∃ x, r.1 = l ++ [x]))
theorem app_tail (l : List S28) (hl : l.length ≤ 1048576) (b : Bool) (c0 c1 c2 c3 c4 c5 c6 c7 c8 : Int) (hb : 60 ≤ l.length → b = true) :
    Same (Appends l) (fun k => spec_AppendEntry.j0 k l l b c0 c1 c2 c3 c4 c5 c6 c7 c8) (fun k => impl_AppendEntry.j0 k l l b c0 c1 c2 c3 c4 c5 c6 c7 c8) := by
  refine Same.step (fun k => spec_AppendEntry.j0.eq_2 _ _ _ _ _ _ _ _ _ _ _ _ _) (fun k => impl_AppendEntry.j0.eq_2 _ _ _ _ _ _ _ _ _ _ _ _ _) ?_
  refine Same.ite (fun h => Same.now rfl ⟨fun _ => rfl, .inl ⟨rfl, rfl⟩⟩) (fun h => ?_)
  obtain ⟨r, hr⟩ := lm_some l hl
  refine Same.bind (Q := fun _ => True) (Same.of (Ev.const hr) (Ev.const hr) trivial) (fun t _ => ?_)
  have hh := hash_same ([t] ++ [c0, c1, c2, c3, c4, c5, c6, c7]) (by simp)
  simp only [Option.bind_some, spec_EntryInts.f, impl_EntryInts.f]
  refine Same.pos2 (by simp) (by simp) (Same.bind hh (fun v _ => Same.pos2 (by omega) (by omega) (Same.now rfl ⟨fun h60 => ?_, .inr ⟨rfl, _, rfl⟩⟩)))
  exact absurd (hb h60) h
theorem app_same (l : List S28) (hl : l.length ≤ 1048576) (c0 c1 c2 c3 c4 c5 c6 c7 c8 : Int) :
    Same (Appends l) (fun k => spec_AppendEntry.f k l c0 c1 c2 c3 c4 c5 c6 c7 c8) (fun k => impl_AppendEntry.f k l c0 c1 c2 c3 c4 c5 c6 c7 c8) := by
  unfold spec_AppendEntry.f impl_AppendEntry.f
  simp only [Option.bind_some, List.nil_append, List.length_nil, Nat.zero_add]
  refine Same.pos2 (by omega) (by omega) (Same.ite (fun h => app_tail l hl _ _ _ _ _ _ _ _ _ _ (fun _ => rfl)) (fun h => ?_))
  have h60 : ∀ b : Bool, 60 ≤ l.length → b = true := fun b hb => absurd hb (by omega)
  obtain ⟨r, hr⟩ := l1In_some c0 1 3
  refine Same.bind (Q := fun _ => True) (Same.of (Ev.const hr) (Ev.const hr) trivial) (fun t _ => Same.ite (fun _ => ?_) (fun _ => app_tail l hl _ _ _ _ _ _ _ _ _ _ (h60 _)))
  obtain ⟨r, hr⟩ := time_some c1
  refine Same.bind (Q := fun _ => True) (Same.of (Ev.const hr) (Ev.const hr) trivial) (fun t _ => Same.ite (fun _ => ?_) (fun _ => app_tail l hl _ _ _ _ _ _ _ _ _ _ (h60 _)))
  refine Same.ite (fun h => ?_) (fun _ => app_tail l hl _ _ _ _ _ _ _ _ _ _ (h60 _))
  rw [wrap64_id (by omega) (by omega)]
  exact Same.pos2 (by omega) (by omega) (Same.pos2 (by omega) (by omega) (app_tail l hl _ _ _ _ _ _ _ _ _ _ (h60 _)))
/-- One round, where fewer than 60 are there. -/
theorem trail_same (l : List S28) (hl : l.length ≤ 60) : Same (fun _ => True) (fun k => spec_IsTrail.l0 k l [] 0) (fun k => impl_IsTrail.l0 k [] l (l.length : Int) 0) := by
  refine down (P := fun i => ∀ own : List S28, own.length = i → Same (fun _ => True) (fun k => spec_IsTrail.l0 k l own (i : Int)) (fun k => impl_IsTrail.l0 k own l (l.length : Int) (i : Int))) l.length ?_ ?_ 0 (Nat.zero_le _) [] rfl
  · intro own _
    exact Same.step (fun k => spec_IsTrail.l0.eq_2 _ _ _ _) (fun k => impl_IsTrail.l0.eq_2 _ _ _ _ _) (Same.neg2 (by omega) (by omega) (Same.now rfl trivial))
  · intro i hi h own ho
    refine Same.step (fun k => spec_IsTrail.l0.eq_2 _ _ _ _) (fun k => impl_IsTrail.l0.eq_2 _ _ _ _ _) (Same.pos2 (by omega) (by omega) (Same.pos2 (by omega) (by omega) (Same.posR (by omega) ?_)))
    refine Same.bind (app_same own (by omega) _ _ _ _ _ _ _ _ _) (fun a ha => ?_)
    refine Same.ite (fun hb => ?_) (fun _ => Same.now rfl trivial)
    rcases ha.2 with ⟨hf, _⟩ | ⟨_, x, hx⟩
    · rw [hf] at hb; cases hb
    · have hlen : a.1.length = i + 1 := by rw [hx, List.length_append, ho]; rfl
      have e : wrap64 ((a.1.length : Int) - 1) = (i : Int) := by rw [wrap64_id (by omega) (by omega)]; omega
      rw [e, wrap64_nat (n := i) (by omega)]
      exact Same.posL (by omega) (Same.posR (by omega) (Same.posR (by omega) (Same.ite (fun _ => Same.now rfl trivial) (fun _ => h _ hlen))))
/-- More than 60: no trail. -/
theorem trail_long (l : List S28) (hl : 60 < l.length) (hm : l.length ≤ 1048576) : Ev (fun k => impl_IsTrail.l0 k [] l (l.length : Int) 0) false := by
  refine down (P := fun i => ∀ own : List S28, own.length = i → Ev (fun k => impl_IsTrail.l0 k own l (l.length : Int) (i : Int)) false) 60 ?_ ?_ 0 (Nat.zero_le _) [] rfl
  · intro own ho
    obtain ⟨r, _, hp, h60, _⟩ := app_same own (by omega) (rd_T28 l 60).f0 (rd_T28 l 60).f1 (rd_T28 l 60).f2 (rd_T28 l 60).f3 (rd_T28 l 60).f4 (rd_T28 l 60).f5 (rd_T28 l 60).f6 (rd_T28 l 60).f7 (rd_T28 l 60).f8
    refine Ev.step (fun k => impl_IsTrail.l0.eq_2 _ _ _ _ _) (Ev.pos (by omega) (Ev.pos (by omega) (Ev.pos (by omega) (Ev.bind hp (Ev.neg ?_ (Ev.now _))))))
    rw [h60 (by omega)]
    decide
  · intro i hi h own ho
    obtain ⟨r, _, hp, _, hr⟩ := app_same own (by omega) (rd_T28 l i).f0 (rd_T28 l i).f1 (rd_T28 l i).f2 (rd_T28 l i).f3 (rd_T28 l i).f4 (rd_T28 l i).f5 (rd_T28 l i).f6 (rd_T28 l i).f7 (rd_T28 l i).f8
    refine Ev.step (fun k => impl_IsTrail.l0.eq_2 _ _ _ _ _) (Ev.pos (by omega) (Ev.pos (by omega) (Ev.pos (by omega) (Ev.bind hp ?_))))
    rcases hr with ⟨hf, _⟩ | ⟨ht, x, hx⟩
    · exact Ev.neg (by rw [hf]; decide) (Ev.now _)
    · have hlen : r.1.length = i + 1 := by rw [hx, List.length_append, ho]; rfl
      have e : wrap64 ((r.1.length : Int) - 1) = (i : Int) := by rw [wrap64_id (by omega) (by omega)]; omega
      refine Ev.pos ht ?_
      rw [e, wrap64_nat (n := i) (by omega)]
      refine Ev.pos (by omega) (Ev.pos (by omega) ?_)
      have hd : ∀ (c : Bool) (f : Nat → Option Bool), Ev f false → Ev (fun n => if c = true then some false else f n) false := fun c f hf => by
        cases c
        · exact Ev.neg (by decide) hf
        · exact Ev.pos rfl (Ev.now _)
      exact hd _ _ (h _ hlen)
theorem FnExactIsTrail : ∀ (l0 : List (S25)), (l0.length ≤ maxLen ∧ ∀ x_ ∈ l0, V25 x_) → ∃ k, laws_FnExactIsTrail.f k l0 = some true := by
  intro l ⟨hl, _⟩
  unfold maxLen at hl
  apply Ev.rounds
  unfold laws_FnExactIsTrail.f
  refine Ev.bindE (sz_EntryS l _ hl (by omega) (by omega)) ?_
  by_cases h : (l.length : Int) ≤ 1048576
  · rw [if_pos h]
    have hto := to_EntryS l (by omega)
    have hla : (l.map cv25).length ≤ 1048576 := by simp; omega
    have ea := eq_EntryS (l.map cv25) (by omega)
    obtain ⟨r, hs, hp, _⟩ : Same (fun _ => True) (fun k => spec_IsTrail.f k (l.map cv25)) (fun k => impl_IsTrail.f k (l.map cv25)) := by
      unfold spec_IsTrail.f impl_IsTrail.f
      by_cases h60 : 60 < (l.map cv25).length
      · exact Same.posL (by omega) (Same.of (Ev.now _) (trail_long _ h60 hla) trivial)
      · exact Same.negL (by omega) (trail_same _ (by omega))
    refine Ev.neg (by omega) ?_
    refine Ev.bind hto ?_
    refine Ev.bind hs ?_
    refine Ev.bind hto ?_
    refine Ev.bind hp ?_
    refine Ev.neg (by simp) ?_
    refine Ev.bind hto ?_
    refine Ev.bind ea ?_
    refine Ev.pos rfl ?_
    exact Ev.now _
  · rw [if_neg h]
    exact Ev.pos (by omega) (Ev.now _)
end Go.Proofs.Ytoadeemcdakhcaa.Pure
