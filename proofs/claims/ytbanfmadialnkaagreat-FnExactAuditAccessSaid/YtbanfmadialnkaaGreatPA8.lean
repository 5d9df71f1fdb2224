/- Decisions, saved decisions, copies, and what a point answers. -/
import Derived.Test.YtbanfmadialnkaaGreatPA7
namespace Go.Proofs.YtbanfmadialnkaaGreat.Eng
open Go.RowKit
set_option linter.unusedVariables false
set_option linter.unusedSimpArgs false
set_option linter.unusedSectionVars false
set_option maxRecDepth 100000
variable [Sm]
/-- A decision by the rules that hold. -/
def Rv (rs idx : LL) : Int := bif idx.any (fun x => decide (gi rs (v0 x) 0 = 0)) then 0 else bif idx.isEmpty then 0 else 1
theorem YS (xs : LL) : decide (ln xs = 0) = xs.isEmpty := by cases xs <;> simp [ln]; omega
theorem aaj (v : Int) (rs idx : LL) (db : idx.length ≤ 4611686018427387904) (h : ∀ x ∈ idx, dk (v0 x) rs.length = true) : Hj.l0 0 v rs idx = rI (Rv rs idx) := by
 refine (Pq (l0 := fun i => Hj.l0 i v rs idx) (n := idx.length) (p := fun i => decide (gi rs (v0 (idx.getD i [])) 0 = 0)) (F := rI 0) (R := rI (bif idx.isEmpty then 0 else 1)) ?_ fun i hi => ?_).trans ?_
 ·rw [Hj.CZ, Dq (Nat.le_refl _), YS]
  cases idx.isEmpty <;> rfl
 ·have e : gi idx (i : Int) 0 = v0 (idx.getD i []) := rfl
  rw [Hj.CZ, Dr hi, DB hi, DG (by omega), e, h _ (Du hi)]; rfl
 ·rw [JQ idx [] fun x => decide (gi rs (v0 x) 0 = 0), cI]; rfl
theorem XF (v : Int) (rs idx : LL) (db : idx.length ≤ 4611686018427387904) (h : ∀ x ∈ idx, dk (v0 x) rs.length = true ∧ (gi rs (v0 x) 0 = 0 ∨ gi rs (v0 x) 0 = 1)) : HA.c v rs idx = rI (Rv rs idx) := by
 have key : ∀ i, i ≤ idx.length → ∀ out : Int, HA.l0 out idx (ln idx) (i : Int) v rs = rI (bif (idx.drop i).any (fun x => decide (gi rs (v0 x) 0 = 0)) then 0 else bif (idx.drop i).isEmpty then out else 1) := by
  refine down idx.length ?_ ?_
  ·intro out
   rw [HA.CZ, Dq (Nat.le_refl _), List.drop_length]; rfl
  ·intro i hi ih out
   have e : gi idx (i : Int) 0 = v0 (idx.getD i []) := rfl
   obtain ⟨h1, h2⟩ := h _ (Du hi)
   rw [HA.CZ, Dr hi, DB hi, DG (by omega), e, h1, JW hi, List.any_cons, FE, FE, cond_true]
   rcases h2 with h2 | h2
   ·rw [h2]; rfl
   ·rw [h2, ih]
    show rI _ = rI _
    rw [show decide ((1 : Int) = 0) = false from rfl, Bool.false_or]
    congr 1
    cases (idx.drop (i + 1)).any _
    ·cases (idx.drop (i + 1)).isEmpty <;> rfl
    ·rfl
 rw [HA.eq]
 exact key 0 (Nat.zero_le _) 0
noncomputable def IN (l s : LL) (v : Int) (rs : LL) (p d g ac ob now : Int) : Int := bif GV p d g ac ob now then (bif KD v rs then Rv rs (Kt l s rs p d g ac ob now) else 0) else 0
theorem Tn (l s rs : LL) (p d g ac ob now : Int) : (Kt l s rs p d g ac ob now).length ≤ rs.length := by
 unfold Kt
 rw [List.length_map]; exact Nat.le_trans (List.length_filter_le _ _) (by simp)
theorem To {l s rs : LL} {p d g ac ob now : Int} {x : List U} (h : x ∈ Kt l s rs p d g ac ob now) : ∃ i : Nat, i < rs.length ∧ v0 x = (i : Int) := by
 unfold Kt at h
 simp only [List.mem_map, List.mem_filter, List.mem_range] at h
 obtain ⟨i, ⟨h1, _⟩, rfl⟩ := h
 exact ⟨i, h1, rfl⟩
theorem aak (l s : LL) (v : Int) (rs : LL) (hl : l.length ≤ 4611686018427387904) (hs : s.length ≤ 4611686018427387904) (hr : Da rs ≤ 1099511627776) (p d g ac ob now : Int) : Hj.c l s v rs p d g ac ob now = rI (IN l s v rs p d g ac ob now) := by
 have hlen := DA rs
 have hh := Tn l s rs p d g ac ob now
 rw [Hj.eq, SH, UM v rs hr, aay l s rs v hl hs hr]
 simp only [q0, qb, ql, FW]
 rw [aaj v rs _ (by omega) fun x hx => by obtain ⟨i, h1, h2⟩ := To hx; rw [h2]; exact DB h1]
 simp only [cI]; rfl
theorem XG (l s : LL) (v : Int) (rs : LL) (hl : l.length ≤ 4611686018427387904) (hs : s.length ≤ 1048576) (hr : Da rs ≤ 1099511627776) (p d g ac ob now : Int) : Lk.c l s v rs p d g ac ob now = rI (IN l s v rs p d g ac ob now) := by
 have hlen := DA rs
 have hh := Tn l s rs p d g ac ob now
 rw [Lk.eq, RT, TA v rs hr, XS SX l s rs v hl hs hr]
 unfold IN
 simp only [q0, qb, ql, FW]
 cases GV p d g ac ob now
 ·rfl
 cases hp : KD v rs
 ·rfl
 rw [cond_true, cond_true, XF v rs _ (by omega) fun x hx => ?_]
 ·rfl
 ·obtain ⟨i, h1, h2⟩ := To hx
  rw [h2]
  refine ⟨DB h1, ?_⟩
  unfold KD at hp
  rw [Bool.and_eq_true] at hp
  have := List.all_eq_true.1 hp.1 _ (Du h1 (z := []))
  unfold IP Qw at this
  rw [Bool.and_eq_true] at this
  have := Ey this.1
  show ui (rs.getD i []) 0 = 0 ∨ ui (rs.getD i []) 0 = 1
  omega
end Go.Proofs.YtbanfmadialnkaaGreat.Eng
/- half -/
