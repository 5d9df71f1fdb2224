/- Decisions, saved decisions, copies, and what a point answers. -/
import Derived.Test.YtbanfmadialnkaaGreatPA7
namespace Go.Proofs.YtbanfmadialnkaaGreat.Eng
open Go.RowKit
set_option linter.unusedVariables false
set_option linter.unusedSimpArgs false
set_option linter.unusedSectionVars false
set_option maxRecDepth 100000
variable [Sm]
/-- A decision by the rules that hold. -/
def GP (rs idx : LL) : Int := bif idx.any (fun x => decide (gi rs (v0 x) 0 = 0)) then 0 else bif idx.isEmpty then 0 else 1
theorem Tg (xs : LL) : decide (ln xs = 0) = xs.isEmpty := by cases xs <;> simp [ln]; omega
theorem Th (v : Int) (rs idx : LL) (dS : idx.length ≤ 4611686018427387904) (h : ∀ x ∈ idx, an (v0 x) rs.length = true) : jt.l0 0 v rs idx = rI (GP rs idx) := by
 refine (A0 (l0 := fun i => jt.l0 i v rs idx) (n := idx.length) (p := fun i => decide (gi rs (v0 (idx.getD i [])) 0 = 0)) (F := rI 0) (R := rI (bif idx.isEmpty then 0 else 1)) ?_ fun i hi => ?_).trans ?_
 ·rw [jt.ah, aQ (Nat.le_refl _), Tg]
  cases idx.isEmpty <;> rfl
 ·have e : gi idx (i : Int) 0 = v0 (idx.getD i []) := rfl
  rw [jt.ah, aR hi, bo hi, bH (by omega), e, h _ (aZ hi)]; rfl
 ·rw [ov idx [] fun x => decide (gi rs (v0 x) 0 = 0), cI]; rfl
theorem Ti (v : Int) (rs idx : LL) (dS : idx.length ≤ 4611686018427387904) (h : ∀ x ∈ idx, an (v0 x) rs.length = true ∧ (gi rs (v0 x) 0 = 0 ∨ gi rs (v0 x) 0 = 1)) : kF.c v rs idx = rI (GP rs idx) := by
 have key : ∀ i, i ≤ idx.length → ∀ out : Int, kF.l0 out idx (ln idx) (i : Int) v rs = rI (bif (idx.drop i).any (fun x => decide (gi rs (v0 x) 0 = 0)) then 0 else bif (idx.drop i).isEmpty then out else 1) := by
  refine down idx.length ?_ ?_
  ·intro out
   rw [kF.ah, aQ (Nat.le_refl _), List.drop_length]; rfl
  ·intro i hi ih out
   have e : gi idx (i : Int) 0 = v0 (idx.getD i []) := rfl
   obtain ⟨h1, h2⟩ := h _ (aZ hi)
   rw [kF.ah, aR hi, bo hi, bH (by omega), e, h1, pX hi, List.any_cons, gd, gd, cond_true]
   rcases h2 with h2 | h2
   ·rw [h2]; rfl
   ·rw [h2, ih]
    show rI _ = rI _
    rw [show decide ((1 : Int) = 0) = false from rfl, Bool.false_or]
    congr 1
    cases (idx.drop (i + 1)).any _
    ·cases (idx.drop (i + 1)).isEmpty <;> rfl
    ·rfl
 rw [kF.eq]
 exact key 0 (Nat.zero_le _) 0
noncomputable def mS (l s : LL) (v : Int) (rs : LL) (p d g ac ob now : Int) : Int := bif iN p d g ac ob now then (bif tc v rs then GP rs (te l s rs p d g ac ob now) else 0) else 0
theorem Lg (l s rs : LL) (p d g ac ob now : Int) : (te l s rs p d g ac ob now).length ≤ rs.length := by
 unfold te
 rw [List.length_map]; exact Nat.le_trans (List.length_filter_le _ _) (by simp)
theorem Lh {l s rs : LL} {p d g ac ob now : Int} {x : List U} (h : x ∈ te l s rs p d g ac ob now) : ∃ i : Nat, i < rs.length ∧ v0 x = (i : Int) := by
 unfold te at h
 simp only [List.mem_map, List.mem_filter, List.mem_range] at h
 obtain ⟨i, ⟨h1, _⟩, rfl⟩ := h
 exact ⟨i, h1, rfl⟩
theorem SS (l s : LL) (v : Int) (rs : LL) (hl : l.length ≤ 4611686018427387904) (hs : s.length ≤ 4611686018427387904) (hr : ai rs ≤ 1099511627776) (p d g ac ob now : Int) : jt.c l s v rs p d g ac ob now = rI (mS l s v rs p d g ac ob now) := by
 have hlen := bl rs
 have hh := Lg l s rs p d g ac ob now
 rw [jt.eq, Dy, KZ v rs hr, Tj l s rs v hl hs hr]
 simp only [q0, qb, ql, gL]
 rw [Th v rs _ (by omega) fun x hx => by obtain ⟨i, h1, h2⟩ := Lh hx; rw [h2]; exact bo h1]
 simp only [cI]; rfl
theorem SU (l s : LL) (v : Int) (rs : LL) (hl : l.length ≤ 4611686018427387904) (hs : s.length ≤ 1048576) (hr : ai rs ≤ 1099511627776) (p d g ac ob now : Int) : uo.c l s v rs p d g ac ob now = rI (mS l s v rs p d g ac ob now) := by
 have hlen := bl rs
 have hh := Lg l s rs p d g ac ob now
 rw [uo.eq, Dz, K1 v rs hr, Tk KX l s rs v hl hs hr]
 unfold mS
 simp only [q0, qb, ql, gL]
 cases iN p d g ac ob now
 ·rfl
 cases hp : tc v rs
 ·rfl
 rw [cond_true, cond_true, Ti v rs _ (by omega) fun x hx => ?_]
 ·rfl
 ·obtain ⟨i, h1, h2⟩ := Lh hx
  rw [h2]
  refine ⟨bo h1, ?_⟩
  unfold tc at hp
  rw [Bool.and_eq_true] at hp
  have := List.all_eq_true.1 hp.1 _ (aZ h1 (z := []))
  unfold mT C0 at this
  rw [Bool.and_eq_true] at this
  have := dV this.1
  show ui (rs.getD i []) 0 = 0 ∨ ui (rs.getD i []) 0 = 1
  omega
end Go.Proofs.YtbanfmadialnkaaGreat.Eng
/- half -/
