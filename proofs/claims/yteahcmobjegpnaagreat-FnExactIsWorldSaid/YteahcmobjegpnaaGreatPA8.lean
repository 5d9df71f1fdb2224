/- Decisions, saved decisions, copies, and what a point answers. -/
import Derived.Test.YteahcmobjegpnaaGreatPA7
namespace Go.Proofs.YteahcmobjegpnaaGreat.Eng
open Go.RowKit
set_option linter.unusedVariables false
set_option linter.unusedSimpArgs false
set_option linter.unusedSectionVars false
set_option maxRecDepth 100000
variable [Sm]
/-- A decision by the rules that hold. -/
def decL (rs idx : LL) : Int := bif idx.any (fun x => decide (gi rs (v0 x) 0 = 0)) then 0 else bif idx.isEmpty then 0 else 1
theorem ln_nil (xs : LL) : decide (ln xs = 0) = xs.isEmpty := by cases xs <;> simp [ln]; omega
theorem s_dec (v : Int) (rs idx : LL) (hi' : idx.length ≤ 4611686018427387904) (h : ∀ x ∈ idx, inRange (v0 x) rs.length = true) : spec_DecideBy.l0 0 v rs idx = rI (decL rs idx) := by
  refine (any_loop3 (l0 := fun i => spec_DecideBy.l0 i v rs idx) (n := idx.length) (p := fun i => decide (gi rs (v0 (idx.getD i [])) 0 = 0)) (F := rI 0) (R := rI (bif idx.isEmpty then 0 else 1)) ?_ fun i hi => ?_).trans ?_
  · rw [spec_DecideBy.l0_eq, not_lt_nat (Nat.le_refl _), ln_nil]
    cases idx.isEmpty <;> rfl
  · have e : gi idx (i : Int) 0 = v0 (idx.getD i []) := rfl
    rw [spec_DecideBy.l0_eq, lt_nat hi, in_nat hi, w64_nat (by omega), e, h _ (getD_mem hi)]; rfl
  · rw [range_any idx [] fun x => decide (gi rs (v0 x) 0 = 0), cI]; rfl
theorem i_dec (v : Int) (rs idx : LL) (hi' : idx.length ≤ 4611686018427387904) (h : ∀ x ∈ idx, inRange (v0 x) rs.length = true ∧ (gi rs (v0 x) 0 = 0 ∨ gi rs (v0 x) 0 = 1)) : impl_decided.c v rs idx = rI (decL rs idx) := by
  have key : ∀ i, i ≤ idx.length → ∀ out : Int, impl_decided.l0 out idx (ln idx) (i : Int) v rs = rI (bif (idx.drop i).any (fun x => decide (gi rs (v0 x) 0 = 0)) then 0 else bif (idx.drop i).isEmpty then out else 1) := by
    refine down idx.length ?_ ?_
    · intro out
      rw [impl_decided.l0_eq, not_lt_nat (Nat.le_refl _), List.drop_length]; rfl
    · intro i hi ih out
      have e : gi idx (i : Int) 0 = v0 (idx.getD i []) := rfl
      obtain ⟨h1, h2⟩ := h _ (getD_mem hi)
      rw [impl_decided.l0_eq, lt_nat hi, in_nat hi, w64_nat (by omega), e, h1, drop_get hi, List.any_cons, gt_, gt_, cond_true]
      rcases h2 with h2 | h2
      · rw [h2]; rfl
      · rw [h2, ih]
        show rI _ = rI _
        rw [show decide ((1 : Int) = 0) = false from rfl, Bool.false_or]
        congr 1
        cases (idx.drop (i + 1)).any _
        · cases (idx.drop (i + 1)).isEmpty <;> rfl
        · rfl
  rw [impl_decided.eq]
  exact key 0 (Nat.zero_le _) 0
noncomputable def decideBy (l s : LL) (v : Int) (rs : LL) (p d g ac ob now : Int) : Int := bif isReq p d g ac ob now then (bif isPolicy v rs then decL rs (holdL l s rs p d g ac ob now) else 0) else 0
theorem holdL_len (l s rs : LL) (p d g ac ob now : Int) : (holdL l s rs p d g ac ob now).length ≤ rs.length := by
  unfold holdL
  rw [List.length_map]; exact Nat.le_trans (List.length_filter_le _ _) (by simp)
theorem holdL_mem {l s rs : LL} {p d g ac ob now : Int} {x : List U} (h : x ∈ holdL l s rs p d g ac ob now) : ∃ i : Nat, i < rs.length ∧ v0 x = (i : Int) := by
  unfold holdL at h
  simp only [List.mem_map, List.mem_filter, List.mem_range] at h
  obtain ⟨i, ⟨h1, _⟩, rfl⟩ := h
  exact ⟨i, h1, rfl⟩
theorem s_decide (l s : LL) (v : Int) (rs : LL) (hl : l.length ≤ 4611686018427387904) (hs : s.length ≤ 4611686018427387904) (hr : cntRs rs ≤ 1099511627776) (p d g ac ob now : Int) : spec_DecideBy.c l s v rs p d g ac ob now = rI (decideBy l s v rs p d g ac ob now) := by
  have hlen := cntRs_length rs
  have hh := holdL_len l s rs p d g ac ob now
  rw [spec_DecideBy.eq, s_req, s_policy v rs hr, s_holding l s rs v hl hs hr]
  simp only [q0, qb, ql, cnot]
  rw [s_dec v rs _ (by omega) fun x hx => by obtain ⟨i, h1, h2⟩ := holdL_mem hx; rw [h2]; exact in_nat h1]
  simp only [cI]; rfl
theorem i_decide (l s : LL) (v : Int) (rs : LL) (hl : l.length ≤ 4611686018427387904) (hs : s.length ≤ 1048576) (hr : cntRs rs ≤ 1099511627776) (p d g ac ob now : Int) : impl_DecideBy.c l s v rs p d g ac ob now = rI (decideBy l s v rs p d g ac ob now) := by
  have hlen := cntRs_length rs
  have hh := holdL_len l s rs p d g ac ob now
  rw [impl_DecideBy.eq, i_req, i_policy v rs hr, i_holding below_ok l s rs v hl hs hr]
  unfold decideBy
  simp only [q0, qb, ql, cnot]
  cases isReq p d g ac ob now
  · rfl
  cases hp : isPolicy v rs
  · rfl
  rw [cond_true, cond_true, i_dec v rs _ (by omega) fun x hx => ?_]
  · rfl
  · obtain ⟨i, h1, h2⟩ := holdL_mem hx
    rw [h2]
    refine ⟨in_nat h1, ?_⟩
    unfold isPolicy at hp
    rw [Bool.and_eq_true] at hp
    have := List.all_eq_true.1 hp.1 _ (getD_mem h1 (z := []))
    unfold ruleOk isRule at this
    rw [Bool.and_eq_true] at this
    have := within_inv this.1
    show ui (rs.getD i []) 0 = 0 ∨ ui (rs.getD i []) 0 = 1
    omega
end Go.Proofs.YteahcmobjegpnaaGreat.Eng
