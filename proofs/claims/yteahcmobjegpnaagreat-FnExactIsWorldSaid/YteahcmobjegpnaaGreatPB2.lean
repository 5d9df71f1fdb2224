/- Shares, issuers, pairs of roles, epochs. -/
import Derived.Test.YteahcmobjegpnaaGreatPB1
import Derived.Test.YteahcmobjegpnaaGreatPG
namespace Go.Proofs.YteahcmobjegpnaaGreat.Eng
open Go.RowKit
set_option linter.unusedVariables false
set_option linter.unusedSimpArgs false
set_option linter.unusedSectionVars false
set_option maxRecDepth 100000
variable [Sm]
/-! ### Shares -/
theorem s_min (a b : Int) : spec_Min.c a b = rI (min b a) := by
  rw [spec_Min.eq]
  by_cases h : b < a
  · first | rw [decide_eq_true h, Int.min_eq_left (by omega)]; rfl | (simp only [cI]; congr 1; simp [h]; omega)
  · first | rw [decide_eq_false h, Int.min_eq_right (by omega)]; rfl | (simp only [cI]; congr 1; simp [h]; omega)
def shSt (n : Int) (x : List U) : Int := w64 (n + max (min (ui x 1) 101) 0)
def sumSh (xs : LL) : Int := xs.foldl shSt 0
theorem i_sum (xs : LL) (hx : xs.length ≤ 1048576) : impl_SumShares.c xs = rI (sumSh xs) := by
  rw [impl_SumShares.eq]
  refine foldL (l0 := fun n i => impl_SumShares.l0 n xs _ i) (xs := xs) (st := shSt) (R := rI) (fun n => ?_) (fun i hi n => ?_) 0
  · rw [impl_SumShares.l0_eq, not_lt_nat (Nat.le_refl _)]; rfl
  · rw [impl_SumShares.l0_eq, lt_nat hi, in_nat hi, w64_nat (by omega), mxE, mnE]; rfl
theorem s_sum (xs : LL) (hx : xs.length ≤ 1048576) : spec_SumShares.c xs = rI (sumSh xs) := by
  rw [spec_SumShares.eq]
  refine foldL (l0 := fun n i => spec_SumShares.l0 xs n i) (xs := xs) (st := shSt) (R := rI) (fun n => ?_) (fun i hi n => ?_) 0
  · rw [spec_SumShares.l0_eq, not_lt_nat (Nat.le_refl _)]; rfl
  · rw [spec_SumShares.l0_eq, lt_nat hi, in_nat hi, w64_nat (by omega), s_max]
    show ((spec_Min.c 101 (max 0 (ui (xs.getD i []) 1))).bind _) = _
    rw [s_min]
    show spec_SumShares.l0 xs (w64 (n + min (max 0 (ui (xs.getD i []) 1)) 101)) _ = spec_SumShares.l0 xs (w64 (n + max (min (ui (xs.getD i []) 1) 101) 0)) _
    rw [show min (max 0 (ui (xs.getD i []) 1)) 101 = max (min (ui (xs.getD i []) 1) 101) 0 by omega]
def okSh (x : List U) : Bool := !decide (ui x 1 < 0)
theorem s_shares (xs : LL) (hx : xs.length ≤ 1048576) : spec_AreShares.c xs = rB (ordered okSh up0 xs && (decide (ln xs ≤ 6) && decide (sumSh xs ≤ 100))) := by
  rw [spec_AreShares.eq]
  refine all_loop2 (l0 := fun i => spec_AreShares.l0 xs i) (n := xs.length) (p := fun i => okSh (xs.getD i []) && adj up0 xs i) (b := (decide (ln xs ≤ 6) && decide (sumSh xs ≤ 100))) ?_ fun i hi => ?_
  · rw [spec_AreShares.l0_eq, not_lt_nat (Nat.le_refl _)]; rw [s_sum xs hx]; show (bif decide (ln xs ≤ 6) then rB (decide (sumSh xs ≤ 100)) else rB false) = _; cases decide (ln xs ≤ 6) <;> rfl
  · have hi0 := hi
    rw [spec_AreShares.l0_eq, lt_nat hi, in_nat hi, w64_nat (by omega)]
    show (bif decide (ui (xs.getD i []) 1 < 0) then _ else _) = bif okSh (xs.getD i []) && adj up0 xs i then _ else rB false
    unfold okSh
    cases decide (ui (xs.getD i []) 1 < 0)
    rotate_left
    · rfl
    cases i with
    | zero => rfl
    | succ i =>
      rw [w_pred (by omega), in_nat (show i < xs.length by omega), pos_succ]
      show (bif decide (v0 (xs.getD i []) ≥ v0 (xs.getD (i + 1) [])) then _ else _) = bif !((decide (v0 (xs.getD i []) ≥ v0 (xs.getD (i + 1) [])))) then _ else rB false
      cases decide (v0 (xs.getD i []) ≥ v0 (xs.getD (i + 1) [])) <;> rfl
theorem i_shares (xs : LL) (hx : xs.length ≤ 1048576) : impl_AreShares.c xs = rB (ordered okSh up0 xs && (decide (ln xs ≤ 6) && decide (sumSh xs ≤ 100))) := by
  rw [impl_AreShares.eq]
  refine all_loop2 (l0 := fun i => impl_AreShares.l0 xs xs _ i) (n := xs.length) (p := fun i => okSh (xs.getD i []) && adj up0 xs i) (b := (decide (ln xs ≤ 6) && decide (sumSh xs ≤ 100))) ?_ fun i hi => ?_
  · rw [impl_AreShares.l0_eq, not_lt_nat (Nat.le_refl _)]; rw [i_sum xs hx]; show (bif decide (ln xs ≤ 6) then rB (decide (sumSh xs ≤ 100)) else rB false) = _; cases decide (ln xs ≤ 6) <;> rfl
  · have hi0 := hi
    rw [impl_AreShares.l0_eq, lt_nat hi, in_nat hi, w64_nat (by omega)]
    show (bif decide (ui (xs.getD i []) 1 < 0) then _ else _) = bif okSh (xs.getD i []) && adj up0 xs i then _ else rB false
    unfold okSh
    cases decide (ui (xs.getD i []) 1 < 0)
    rotate_left
    · rfl
    cases i with
    | zero => rfl
    | succ i =>
      rw [w_pred (by omega), in_nat (show i < xs.length by omega), pos_succ]
      show (bif decide (v0 (xs.getD i []) ≥ v0 (xs.getD (i + 1) [])) then _ else _) = bif !((decide (v0 (xs.getD i []) ≥ v0 (xs.getD (i + 1) [])))) then _ else rB false
      cases decide (v0 (xs.getD i []) ≥ v0 (xs.getD (i + 1) [])) <;> rfl
/-! ### Issuers -/
def isIssuer (i : Int) (s : LL) (k : Int) : Bool := ordered (inLH 1 4) up0 s && (within i 0 9 && within k 1 2147483646)
theorem s_issuer (i : Int) (xs : LL) (hx : xs.length ≤ 1048576) (k : Int) : spec_IsIssuer.c i xs k = rB (ordered (inLH 1 4) up0 xs && (within i 0 9 && within k 1 2147483646)) := by
  rw [spec_IsIssuer.eq]
  refine all_loop2 (l0 := fun j => spec_IsIssuer.l0 j i xs k) (n := xs.length) (p := fun j => (inLH 1 4) (xs.getD j []) && adj up0 xs j) (b := (within i 0 9 && within k 1 2147483646)) ?_ fun j hi => ?_
  · rw [spec_IsIssuer.l0_eq, not_lt_nat (Nat.le_refl _)]; rw [cond_false, s_in, s_key]; show (bif within i 0 9 then rB (within k 1 2147483646) else rB false) = _; cases within i 0 9 <;> rfl
  · have hi0 := hi
    rw [spec_IsIssuer.l0_eq, lt_nat hi, in_nat hi, w64_nat (by omega), s_in]
    show (bif !within (v0 (xs.getD j [])) 1 4 then _ else _) = bif (inLH 1 4) (xs.getD j []) && adj up0 xs j then _ else rB false
    unfold inLH
    cases within (v0 (xs.getD j [])) 1 4
    · rfl
    cases j with
    | zero => rfl
    | succ j =>
      rw [w_pred (by omega), in_nat (show j < xs.length by omega), pos_succ]
      show (bif decide (v0 (xs.getD j []) ≥ v0 (xs.getD (j + 1) [])) then _ else _) = bif !((decide (v0 (xs.getD j []) ≥ v0 (xs.getD (j + 1) [])))) then _ else rB false
      cases decide (v0 (xs.getD j []) ≥ v0 (xs.getD (j + 1) [])) <;> rfl
theorem i_issuer (i : Int) (xs : LL) (hx : xs.length ≤ 1048576) (k : Int) : impl_IsIssuer.c i xs k = rB (isIssuer i xs k) := by
  rw [impl_IsIssuer.eq, i_in, i_asc xs hx, i_key]
  unfold isIssuer
  show (bif within i 0 9 then (bif (ordered (inLH 1 4) up0 xs && true) then rB (within k 1 2147483646) else rB false) else rB false) = _
  cases within i 0 9 <;> cases ordered (inLH 1 4) up0 xs <;> rfl
def okIss (x : List U) : Bool := isIssuer (ui x 0) (ul x 1) (ui x 2)
def areIss (xs : LL) : Bool := ordered okIss up0 xs && decide (ln xs ≤ 4)
theorem s_areIss (xs : LL) (hx : xs.length ≤ 1048576) (hs : ∀ x ∈ xs, (ul x 1).length ≤ 1048576) : spec_AreIssuers.c xs = rB (ordered okIss up0 xs && decide (ln xs ≤ 4)) := by
  rw [spec_AreIssuers.eq]
  refine all_loop2 (l0 := fun i => spec_AreIssuers.l0 xs i) (n := xs.length) (p := fun i => okIss (xs.getD i []) && adj up0 xs i) (b := decide (ln xs ≤ 4)) ?_ fun i hi => ?_
  · rw [spec_AreIssuers.l0_eq, not_lt_nat (Nat.le_refl _)]; rfl
  · have hi0 := hi
    rw [spec_AreIssuers.l0_eq, lt_nat hi, in_nat hi, w64_nat (by omega), s_issuer _ (gl xs (i : Int) 1) (hs _ (getD_mem hi (z := [])))]
    show (bif !isIssuer (ui (xs.getD i []) 0) (ul (xs.getD i []) 1) (ui (xs.getD i []) 2) then _ else _) = bif okIss (xs.getD i []) && adj up0 xs i then _ else rB false
    unfold okIss
    cases isIssuer (ui (xs.getD i []) 0) (ul (xs.getD i []) 1) (ui (xs.getD i []) 2)
    · rfl
    cases i with
    | zero => rfl
    | succ i =>
      rw [w_pred (by omega), in_nat (show i < xs.length by omega), pos_succ]
      show (bif decide (v0 (xs.getD i []) ≥ v0 (xs.getD (i + 1) [])) then _ else _) = bif !((decide (v0 (xs.getD i []) ≥ v0 (xs.getD (i + 1) [])))) then _ else rB false
      cases decide (v0 (xs.getD i []) ≥ v0 (xs.getD (i + 1) [])) <;> rfl
theorem i_areIss (xs : LL) (hx : xs.length ≤ 1048576) (hs : ∀ x ∈ xs, (ul x 1).length ≤ 1048576) : impl_AreIssuers.c xs = rB (ordered okIss up0 xs && decide (ln xs ≤ 4)) := by
  rw [impl_AreIssuers.eq]
  refine all_loop2 (l0 := fun i => impl_AreIssuers.l0 xs xs _ i) (n := xs.length) (p := fun i => okIss (xs.getD i []) && adj up0 xs i) (b := decide (ln xs ≤ 4)) ?_ fun i hi => ?_
  · rw [impl_AreIssuers.l0_eq, not_lt_nat (Nat.le_refl _)]; rfl
  · have hi0 := hi
    rw [impl_AreIssuers.l0_eq, lt_nat hi, in_nat hi, w64_nat (by omega), i_issuer _ (gl xs (i : Int) 1) (hs _ (getD_mem hi (z := [])))]
    show (bif !isIssuer (ui (xs.getD i []) 0) (ul (xs.getD i []) 1) (ui (xs.getD i []) 2) then _ else _) = bif okIss (xs.getD i []) && adj up0 xs i then _ else rB false
    unfold okIss
    cases isIssuer (ui (xs.getD i []) 0) (ul (xs.getD i []) 1) (ui (xs.getD i []) 2)
    · rfl
    cases i with
    | zero => rfl
    | succ i =>
      rw [w_pred (by omega), in_nat (show i < xs.length by omega), pos_succ]
      show (bif decide (v0 (xs.getD i []) ≥ v0 (xs.getD (i + 1) [])) then _ else _) = bif !((decide (v0 (xs.getD i []) ≥ v0 (xs.getD (i + 1) [])))) then _ else rB false
      cases decide (v0 (xs.getD i []) ≥ v0 (xs.getD (i + 1) [])) <;> rfl
end Go.Proofs.YteahcmobjegpnaaGreat.Eng
