/- What functions over lists of facts, revocations, saved decisions compute. -/
import Derived.Test.YtlknolcgdkhccaaGreatPA1
namespace Go.Proofs.YtlknolcgdkhccaaGreat.Eng
open Go.RowKit
set_option linter.unusedVariables false
set_option linter.unusedSimpArgs false
set_option linter.unusedSectionVars false
set_option maxRecDepth 100000
variable [Sm]
def has (xs : LL) (v : Int) : Bool := xs.any fun x => decide (v0 x = v)
theorem s_has (xs : LL) (hx : xs.length ≤ 4611686018427387904) (v : Int) : spec_l13Has.c xs v = rB (has xs v) := by
  rw [spec_l13Has.eq]
  refine (any_loop (l0 := fun i => spec_l13Has.l0 xs v i) (n := xs.length) (p := fun i => decide (v0 (xs.getD i []) = v)) ?_ fun i hi => ?_).trans (congrArg rB (range_any xs [] fun x => decide (v0 x = v)))
  · rw [spec_l13Has.l0_eq, not_lt_nat (Nat.le_refl _)]; rfl
  · rw [spec_l13Has.l0_eq, lt_nat hi, in_nat hi, w64_nat (by omega)]; rfl
theorem i_index (xs : LL) (hx : xs.length ≤ 4611686018427387904) (v : Int) : slices_Index_int.c xs v = rI (pos (fun i => decide (v = v0 (xs.getD i []))) xs.length 0) := by
  rw [slices_Index_int.eq]
  refine find_loop (l0 := fun i => slices_Index_int.l0 xs v _ i) (n := xs.length) (p := fun i => decide (v = v0 (xs.getD i []))) ?_ fun i hi => ?_
  · rw [slices_Index_int.l0_eq, not_lt_nat (Nat.le_refl _)]; rfl
  · rw [slices_Index_int.l0_eq, lt_nat hi, in_nat hi, w64_nat (by omega)]; rfl
theorem any_pos {xs : LL} (q : List U → Bool) : decide (pos (fun i => q (xs.getD i [])) xs.length 0 ≥ 0) = xs.any q := by
  rw [pos_any, ← List.range_eq_range', range_any xs [] q]
theorem i_has (xs : LL) (hx : xs.length ≤ 4611686018427387904) (v : Int) : slices_Contains_int.c xs v = rB (has xs v) := by
  rw [slices_Contains_int.eq, i_index xs hx]
  show rB (decide (pos _ _ _ ≥ 0)) = _
  rw [any_pos fun x => decide (v = v0 x)]
  simp only [has, eq_comm]
theorem find_pos (xs : LL) (q : List U → Bool) : (pos (fun i => q (xs.getD i [])) xs.length 0 = -1 ∧ xs.find? q = none) ∨ ∃ j : Nat, pos (fun i => q (xs.getD i [])) xs.length 0 = (j : Int) ∧ j < xs.length ∧ xs.find? q = some (xs.getD j []) := by
  have key : ∀ k i, i + k = xs.length → (pos (fun i => q (xs.getD i [])) k i = -1 ∧ (xs.drop i).find? q = none) ∨ ∃ j : Nat, pos (fun i => q (xs.getD i [])) k i = (j : Int) ∧ j < xs.length ∧ (xs.drop i).find? q = some (xs.getD j []) := by
    intro k
    induction k with
    | zero => intro i h; left; exact ⟨rfl, by rw [List.drop_eq_nil_of_le (by omega)]; rfl⟩
    | succ k ih =>
      intro i h
      have hi : i < xs.length := by omega
      rw [drop_get hi, List.find?_cons]
      unfold pos
      cases hq : q (xs.getD i [])
      · simp only [Bool.false_eq_true, if_false]
        exact ih (i + 1) (by omega)
      · right
        exact ⟨i, by simp, hi, rfl⟩
  simpa using key xs.length 0 (by omega)
/-- Where something is: -1 if nowhere. -/
def posL (xs : LL) (q : List U → Bool) : Int := pos (fun i => q (xs.getD i [])) xs.length 0
theorem posL_cases (xs : LL) (q : List U → Bool) : (posL xs q = -1 ∧ xs.find? q = none) ∨ ∃ j : Nat, posL xs q = (j : Int) ∧ j < xs.length ∧ xs.find? q = some (xs.getD j []) := find_pos xs q
/-- When a serial was revoked. -/
def revAt (xs : LL) (v : Int) : Int := match xs.find? fun x => decide (v0 x = v) with
  | some x => ui x 1
  | none => -1
theorem s_rev (xs : LL) (hx : xs.length ≤ 4611686018427387904) (v : Int) : spec_RevokedAt.c xs v = rI (revAt xs v) := by
  rw [spec_RevokedAt.eq]
  have key : ∀ i, i ≤ xs.length → spec_RevokedAt.l0 xs v (i : Int) = rI (revAt (xs.drop i) v) := by
    refine down xs.length ?_ ?_
    · rw [spec_RevokedAt.l0_eq, not_lt_nat (Nat.le_refl _), List.drop_length]; rfl
    · intro i hi h
      rw [spec_RevokedAt.l0_eq, lt_nat hi, in_nat hi, w64_nat (by omega), drop_get hi, h]
      unfold revAt
      rw [List.find?_cons]
      show (bif decide (v0 (xs.getD i []) = v) then _ else _) = _
      cases decide (v0 (xs.getD i []) = v) <;> rfl
  have := key 0 (Nat.zero_le _)
  rwa [List.drop_zero] at this
theorem i_rev (xs : LL) (hx : xs.length ≤ 4611686018427387904) (v : Int) : impl_RevokedAt.c xs v = rI (revAt xs v) := by
  have : slices_IndexFunc__impl_RevokedAt_1.c xs v = rI (posL xs fun x => decide (v0 x = v)) := by
    rw [slices_IndexFunc__impl_RevokedAt_1.eq]
    refine find_loop (l0 := fun i => slices_IndexFunc__impl_RevokedAt_1.l0 xs v _ i) (n := xs.length) (p := fun i => decide (v0 (xs.getD i []) = v)) ?_ fun i hi => ?_
    · rw [slices_IndexFunc__impl_RevokedAt_1.l0_eq, not_lt_nat (Nat.le_refl _)]; rfl
    · rw [slices_IndexFunc__impl_RevokedAt_1.l0_eq, lt_nat hi, in_nat hi, w64_nat (by omega), impl_RevokedAt_1.eq]; rfl
  rw [impl_RevokedAt.eq, this]
  unfold revAt
  simp only [q0, qi]
  rcases posL_cases xs fun x => decide (v0 x = v) with ⟨h1, h2⟩ | ⟨j, h1, h2, h3⟩
  · rw [h1, h2]; rfl
  · rw [h1, h3]
    show (bif decide ((j : Int) < 0) then _ else grd (inRange (j : Int) xs.length) (rI (ui (xs.getD j []) 1))) = _
    rw [decide_eq_false (by omega : ¬ ((j : Int) < 0)), in_nat h2]; rfl
def revoked (xs : LL) (v now : Int) : Bool := within (revAt xs v) 0 now
theorem s_revoked (xs : LL) (hx : xs.length ≤ 4611686018427387904) (v now : Int) : spec_IsRevoked.c xs v now = rB (revoked xs v now) := by
  rw [spec_IsRevoked.eq, s_rev _ hx]; simp only [q0, qi, cB, ctf]; rfl
theorem i_revoked (xs : LL) (hx : xs.length ≤ 4611686018427387904) (v now : Int) : impl_IsRevoked.c xs v now = rB (revoked xs v now) := by
  rw [impl_IsRevoked.eq, i_rev _ hx]; simp only [q0, qi, qb, i_in]; rfl
/-! ### Requests -/
def isReq (p d g a o n : Int) : Bool := hasKind p 1 && (hasKind d 2 && (hasKind g 3 && (hasKind o 4 && (within a 0 5 && within n 0 10000))))
theorem s_req (p d g a o n : Int) : spec_IsRequest.c p d g a o n = rB (isReq p d g a o n) := by simp only [spec_IsRequest.eq, s_kind, s_in, s_time, q0, qb, cB, ctf]; rfl
theorem i_req (p d g a o n : Int) : impl_IsRequest.c p d g a o n = rB (isReq p d g a o n) := by simp only [impl_IsRequest.eq, i_kind, i_in, i_time, q0, qb, cB, ctf]; rfl
def sameQ (a0 a1 a2 a3 a4 b0 b1 b2 b3 b4 : Int) : Bool := decide (a0 = b0) && (decide (a1 = b1) && (decide (a2 = b2) && (decide (a3 = b3) && decide (a4 = b4))))
theorem s_same (a0 a1 a2 a3 a4 a5 b0 b1 b2 b3 b4 b5 : Int) : spec_SameQuestion.c a0 a1 a2 a3 a4 a5 b0 b1 b2 b3 b4 b5 = rB (sameQ a0 a1 a2 a3 a4 b0 b1 b2 b3 b4) := by
  simp only [spec_SameQuestion.eq, spec_AtTime.eq, q0]
  show rB (decide (a0 = b0) && (decide (a1 = b1) && (decide (a2 = b2) && (decide (a3 = b3) && (decide (a4 = b4) && (decide ((0 : Int) = 0) && true)))))) = _
  simp [sameQ]
theorem i_same (a0 a1 a2 a3 a4 a5 b0 b1 b2 b3 b4 b5 : Int) : impl_SameQuestion.c a0 a1 a2 a3 a4 a5 b0 b1 b2 b3 b4 b5 = rB (sameQ a0 a1 a2 a3 a4 b0 b1 b2 b3 b4) := by
  simp only [impl_SameQuestion.eq, impl_AtTime.eq, q0]
  show rB (decide (a0 = b0) && (decide (a1 = b1) && (decide (a2 = b2) && (decide (a3 = b3) && (decide (a4 = b4) && (decide (b5 = b5) && true)))))) = _
  simp [sameQ]
/-- A saved decision's row answers a request. -/
def savedFor (p d g a o n : Int) (x : List U) : Bool := sameQ (ui x 0) (ui x 1) (ui x 2) (ui x 3) (ui x 4) p d g a o && (decide (ui x 5 ≤ n) && decide (n ≤ ui x 7))
theorem s_saved (xs : LL) (hx : xs.length ≤ 4611686018427387904) (p d g a o n : Int) : spec_FindSaved.c xs p d g a o n = rI (posL xs (savedFor p d g a o n)) := by
  rw [spec_FindSaved.eq]
  refine find_loop (l0 := fun i => spec_FindSaved.l0 xs i p d g a o n) (n := xs.length) (p := fun i => savedFor p d g a o n (xs.getD i [])) ?_ fun i hi => ?_
  · rw [spec_FindSaved.l0_eq, not_lt_nat (Nat.le_refl _)]; rfl
  · rw [spec_FindSaved.l0_eq, lt_nat hi, in_nat hi, w64_nat (by omega)]
    simp only [s_same, q0, qb, gt_, e2, cond_true]; rfl
theorem i_saved (xs : LL) (hx : xs.length ≤ 4611686018427387904) (p d g a o n : Int) : impl_FindSaved.c xs p d g a o n = rI (posL xs (savedFor p d g a o n)) := by
  have : slices_IndexFunc__impl_FindSaved_1.c xs p d g a o n = rI (posL xs (savedFor p d g a o n)) := by
    rw [slices_IndexFunc__impl_FindSaved_1.eq]
    refine find_loop (l0 := fun i => slices_IndexFunc__impl_FindSaved_1.l0 xs p d g a o n _ i) (n := xs.length) (p := fun i => savedFor p d g a o n (xs.getD i [])) ?_ fun i hi => ?_
    · rw [slices_IndexFunc__impl_FindSaved_1.l0_eq, not_lt_nat (Nat.le_refl _)]; rfl
    · rw [slices_IndexFunc__impl_FindSaved_1.l0_eq, lt_nat hi, in_nat hi, w64_nat (by omega), impl_FindSaved_1.eq]
      simp only [i_same, q0, qb, gt_, cB, ctf, cond_true]; rfl
  rw [impl_FindSaved.eq, this]; rfl
/-! ### Facts -/
def factIs (k s v now age : Int) (x : List U) : Bool := decide (ui x 0 = k) && (decide (ui x 1 = s) && (decide (ui x 2 = v) && factAt x now age))
theorem s_find (xs : LL) (hx : xs.length ≤ 4611686018427387904) (k s v now age : Int) : spec_FindFact.c xs k s v now age = rI (posL xs (factIs k s v now age)) := by
  rw [spec_FindFact.eq]
  refine find_loop (l0 := fun i => spec_FindFact.l0 xs k s v now age i) (n := xs.length) (p := fun i => factIs k s v now age (xs.getD i [])) ?_ fun i hi => ?_
  · rw [spec_FindFact.l0_eq, not_lt_nat (Nat.le_refl _)]; rfl
  · rw [spec_FindFact.l0_eq, lt_nat hi, in_nat hi, w64_nat (by omega)]
    simp only [s_holds, q0, qb, gt_, e2, cond_true]; rfl
theorem i_find (xs : LL) (hx : xs.length ≤ 4611686018427387904) (k s v now age : Int) : impl_FindFact.c xs k s v now age = rI (posL xs (factIs k s v now age)) := by
  have : slices_IndexFunc__impl_FindFact_1.c xs k s v now age = rI (posL xs (factIs k s v now age)) := by
    rw [slices_IndexFunc__impl_FindFact_1.eq]
    refine find_loop (l0 := fun i => slices_IndexFunc__impl_FindFact_1.l0 xs k s v now age _ i) (n := xs.length) (p := fun i => factIs k s v now age (xs.getD i [])) ?_ fun i hi => ?_
    · rw [slices_IndexFunc__impl_FindFact_1.l0_eq, not_lt_nat (Nat.le_refl _)]; rfl
    · rw [slices_IndexFunc__impl_FindFact_1.l0_eq, lt_nat hi, in_nat hi, w64_nat (by omega), impl_FindFact_1.eq]
      simp only [i_holds, q0, qb, gt_, cB, ctf, cond_true]; rfl
  rw [impl_FindFact.eq, this]; rfl
def bestSt (k s now age : Int) (b : Int) (x : List U) : Int := bif decide (ui x 0 = k) && (decide (ui x 1 = s) && factAt x now age) then max b (ui x 2) else b
def best (xs : LL) (k s now age : Int) : Int := xs.foldl (bestSt k s now age) (-1)
theorem s_max (a b : Int) : spec_Max.c a b = rI (max a b) := by
  rw [spec_Max.eq]
  by_cases h : b > a
  · rw [decide_eq_true h, Int.max_eq_right (by omega)]; rfl
  · rw [decide_eq_false h, Int.max_eq_left (by omega)]; rfl
theorem s_best (xs : LL) (hx : xs.length ≤ 4611686018427387904) (k s now age : Int) : spec_BestValue.c xs k s now age = rI (best xs k s now age) := by
  rw [spec_BestValue.eq]
  refine foldL (l0 := fun b i => spec_BestValue.l0 xs k s now age b i) (R := rI) (st := bestSt k s now age) (fun b => ?_) (fun i hi b => ?_) (-1)
  · rw [spec_BestValue.l0_eq, not_lt_nat (Nat.le_refl _)]; rfl
  · rw [spec_BestValue.l0_eq, lt_nat hi, in_nat hi, w64_nat (by omega)]
    simp only [s_holds, s_max, q0, qb, qi, gt_, cond_true]
    unfold bestSt factAt
    simp only [gi, ui, Int.toNat_natCast]
    cases decide (((xs.getD i []).getD 0 U0).toInt = k) <;> cases decide (((xs.getD i []).getD 1 U0).toInt = s) <;> first | rfl | skip
    cases holdsAt _ _ _ _ _ _ now age <;> rfl
theorem i_best (xs : LL) (hx : xs.length ≤ 4611686018427387904) (k s now age : Int) : impl_BestValue.c xs k s now age = rI (best xs k s now age) := by
  rw [impl_BestValue.eq]
  refine foldL (l0 := fun b i => impl_BestValue.l0 k s now age b xs _ i) (R := rI) (st := bestSt k s now age) (fun b => ?_) (fun i hi b => ?_) (-1)
  · rw [impl_BestValue.l0_eq, not_lt_nat (Nat.le_refl _)]; rfl
  · rw [impl_BestValue.l0_eq, lt_nat hi, in_nat hi, w64_nat (by omega)]
    simp only [i_holds, mxE, q0, qb, qi, gt_, cond_true]
    unfold bestSt factAt
    simp only [gi, ui, Int.toNat_natCast]
    cases decide (((xs.getD i []).getD 0 U0).toInt = k) <;> cases decide (((xs.getD i []).getD 1 U0).toInt = s) <;> first | rfl | skip
    cases holdsAt _ _ _ _ _ _ now age <;> rfl
end Go.Proofs.YtlknolcgdkhccaaGreat.Eng
