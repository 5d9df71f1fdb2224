/- What functions over lists of facts, revocations, saved decisions compute. -/
import Derived.Test.YteahcmobjegpnaaGreatPA1
namespace Go.Proofs.YteahcmobjegpnaaGreat.Eng
open Go.RowKit
set_option linter.unusedVariables false
set_option linter.unusedSimpArgs false
set_option linter.unusedSectionVars false
set_option maxRecDepth 100000
variable [Sm]
def has (xs : LL) (v : Int) : Bool := xs.any fun x => decide (v0 x = v)
theorem s_has (xs : LL) (hx : xs.length ≤ 4611686018427387904) (v : Int) : spec_l13Has.c xs v = rB (has xs v) := by
  rw [spec_l13Has.eq]
  refine (any_loop (l0 := fun i => spec_l13Has.l0 xs v i) (n := xs.length) (p := fun i => decide (v0 (xs.getD i []) = v)) ?_ fun i hi => ?_).trans (congrArg rB (range_any xs [] fun x => decide (v0 x = v)))
  · rw [spec_l13Has.l0_eq, not_lt_nat (Nat.le_refl _)]; rfl
  · rw [spec_l13Has.l0_eq, lt_nat hi, in_nat hi, w64_nat (by omega)]; rfl
theorem i_index (xs : LL) (hx : xs.length ≤ 4611686018427387904) (v : Int) : slices_Index_int.c xs v = rI (pos (fun i => decide (v = v0 (xs.getD i []))) xs.length 0) := by
  rw [slices_Index_int.eq]
  refine find_loop (l0 := fun i => slices_Index_int.l0 xs v _ i) (n := xs.length) (p := fun i => decide (v = v0 (xs.getD i []))) ?_ fun i hi => ?_
  · rw [slices_Index_int.l0_eq, not_lt_nat (Nat.le_refl _)]; rfl
  · rw [slices_Index_int.l0_eq, lt_nat hi, in_nat hi, w64_nat (by omega)]; rfl
theorem any_pos {xs : LL} (q : List U → Bool) : decide (pos (fun i => q (xs.getD i [])) xs.length 0 ≥ 0) = xs.any q := by
  rw [pos_any, ← List.range_eq_range', range_any xs [] q]
theorem i_has (xs : LL) (hx : xs.length ≤ 4611686018427387904) (v : Int) : slices_Contains_int.c xs v = rB (has xs v) := by
  rw [slices_Contains_int.eq, i_index xs hx]
  show rB (decide (pos _ _ _ ≥ 0)) = _
  rw [any_pos fun x => decide (v = v0 x)]
  simp only [has, eq_comm]
theorem find_pos (xs : LL) (q : List U → Bool) : (pos (fun i => q (xs.getD i [])) xs.length 0 = -1 ∧ xs.find? q = none) ∨ ∃ j : Nat, pos (fun i => q (xs.getD i [])) xs.length 0 = (j : Int) ∧ j < xs.length ∧ xs.find? q = some (xs.getD j []) := by
  have key : ∀ k i, i + k = xs.length → (pos (fun i => q (xs.getD i [])) k i = -1 ∧ (xs.drop i).find? q = none) ∨ ∃ j : Nat, pos (fun i => q (xs.getD i [])) k i = (j : Int) ∧ j < xs.length ∧ (xs.drop i).find? q = some (xs.getD j []) := by
    intro k
    induction k with
    | zero => intro i h; left; exact ⟨rfl, by rw [List.drop_eq_nil_of_le (by omega)]; rfl⟩
    | succ k ih =>
      intro i h
      have hi : i < xs.length := by omega
      rw [drop_get hi, List.find?_cons]
      unfold pos
      cases hq : q (xs.getD i [])
      · simp only [Bool.false_eq_true, if_false]
        exact ih (i + 1) (by omega)
      · right
        exact ⟨i, by simp, hi, rfl⟩
  simpa using key xs.length 0 (by omega)
/-- Where something is: -1 if nowhere. -/
def posL (xs : LL) (q : List U → Bool) : Int := pos (fun i => q (xs.getD i [])) xs.length 0
theorem posL_cases (xs : LL) (q : List U → Bool) : (posL xs q = -1 ∧ xs.find? q = none) ∨ ∃ j : Nat, posL xs q = (j : Int) ∧ j < xs.length ∧ xs.find? q = some (xs.getD j []) := find_pos xs q
/-! ### Requests -/
def isReq (p d g a o n : Int) : Bool := hasKind p 1 && (hasKind d 2 && (hasKind g 3 && (hasKind o 4 && (within a 0 5 && within n 0 10000))))
theorem s_req (p d g a o n : Int) : spec_IsRequest.c p d g a o n = rB (isReq p d g a o n) := by simp only [spec_IsRequest.eq, s_kind, s_in, s_time, q0, qb, cB, ctf]; rfl
theorem i_req (p d g a o n : Int) : impl_IsRequest.c p d g a o n = rB (isReq p d g a o n) := by simp only [impl_IsRequest.eq, i_kind, i_in, i_time, q0, qb, cB, ctf]; rfl
/-! ### Facts -/
def factIs (k s v now age : Int) (x : List U) : Bool := decide (ui x 0 = k) && (decide (ui x 1 = s) && (decide (ui x 2 = v) && factAt x now age))
theorem s_find (xs : LL) (hx : xs.length ≤ 4611686018427387904) (k s v now age : Int) : spec_FindFact.c xs k s v now age = rI (posL xs (factIs k s v now age)) := by
  rw [spec_FindFact.eq]
  refine find_loop (l0 := fun i => spec_FindFact.l0 xs k s v now age i) (n := xs.length) (p := fun i => factIs k s v now age (xs.getD i [])) ?_ fun i hi => ?_
  · rw [spec_FindFact.l0_eq, not_lt_nat (Nat.le_refl _)]; rfl
  · rw [spec_FindFact.l0_eq, lt_nat hi, in_nat hi, w64_nat (by omega)]
    simp only [s_holds, q0, qb, gt_, e2, cond_true]; rfl
theorem i_find (xs : LL) (hx : xs.length ≤ 4611686018427387904) (k s v now age : Int) : impl_FindFact.c xs k s v now age = rI (posL xs (factIs k s v now age)) := by
  have : slices_IndexFunc__impl_FindFact_1.c xs k s v now age = rI (posL xs (factIs k s v now age)) := by
    rw [slices_IndexFunc__impl_FindFact_1.eq]
    refine find_loop (l0 := fun i => slices_IndexFunc__impl_FindFact_1.l0 xs k s v now age _ i) (n := xs.length) (p := fun i => factIs k s v now age (xs.getD i [])) ?_ fun i hi => ?_
    · rw [slices_IndexFunc__impl_FindFact_1.l0_eq, not_lt_nat (Nat.le_refl _)]; rfl
    · rw [slices_IndexFunc__impl_FindFact_1.l0_eq, lt_nat hi, in_nat hi, w64_nat (by omega), impl_FindFact_1.eq]
      simp only [i_holds, q0, qb, gt_, cB, ctf, cond_true]; rfl
  rw [impl_FindFact.eq, this]; rfl
def bestSt (k s now age : Int) (b : Int) (x : List U) : Int := bif decide (ui x 0 = k) && (decide (ui x 1 = s) && factAt x now age) then max b (ui x 2) else b
def best (xs : LL) (k s now age : Int) : Int := xs.foldl (bestSt k s now age) (-1)
theorem s_max (a b : Int) : spec_Max.c a b = rI (max a b) := by
  rw [spec_Max.eq]
  by_cases h : b > a
  · rw [decide_eq_true h, Int.max_eq_right (by omega)]; rfl
  · rw [decide_eq_false h, Int.max_eq_left (by omega)]; rfl
theorem s_best (xs : LL) (hx : xs.length ≤ 4611686018427387904) (k s now age : Int) : spec_BestValue.c xs k s now age = rI (best xs k s now age) := by
  rw [spec_BestValue.eq]
  refine foldL (l0 := fun b i => spec_BestValue.l0 xs k s now age b i) (R := rI) (st := bestSt k s now age) (fun b => ?_) (fun i hi b => ?_) (-1)
  · rw [spec_BestValue.l0_eq, not_lt_nat (Nat.le_refl _)]; rfl
  · rw [spec_BestValue.l0_eq, lt_nat hi, in_nat hi, w64_nat (by omega)]
    simp only [s_holds, s_max, q0, qb, qi, gt_, cond_true]
    unfold bestSt factAt
    simp only [gi, ui, Int.toNat_natCast]
    cases decide (((xs.getD i []).getD 0 U0).toInt = k) <;> cases decide (((xs.getD i []).getD 1 U0).toInt = s) <;> first | rfl | skip
    cases holdsAt _ _ _ _ _ _ now age <;> rfl
theorem i_best (xs : LL) (hx : xs.length ≤ 4611686018427387904) (k s now age : Int) : impl_BestValue.c xs k s now age = rI (best xs k s now age) := by
  rw [impl_BestValue.eq]
  refine foldL (l0 := fun b i => impl_BestValue.l0 k s now age b xs _ i) (R := rI) (st := bestSt k s now age) (fun b => ?_) (fun i hi b => ?_) (-1)
  · rw [impl_BestValue.l0_eq, not_lt_nat (Nat.le_refl _)]; rfl
  · rw [impl_BestValue.l0_eq, lt_nat hi, in_nat hi, w64_nat (by omega)]
    simp only [i_holds, mxE, q0, qb, qi, gt_, cond_true]
    unfold bestSt factAt
    simp only [gi, ui, Int.toNat_natCast]
    cases decide (((xs.getD i []).getD 0 U0).toInt = k) <;> cases decide (((xs.getD i []).getD 1 U0).toInt = s) <;> first | rfl | skip
    cases holdsAt _ _ _ _ _ _ now age <;> rfl
end Go.Proofs.YteahcmobjegpnaaGreat.Eng
