/- Grants, trails, pairs of roles, epochs, centers, points, worlds that are valid. -/
import Derived.Test.YtaghmjcfaplkiaaGreatPB2
import Derived.Test.YtaghmjcfaplkiaaGreatPC1
import Derived.Test.YtaghmjcfaplkiaaGreatPA10
namespace Go.Proofs.YtaghmjcfaplkiaaGreat.Eng
open Go.RowKit
set_option linter.unusedVariables false
set_option linter.unusedSimpArgs false
set_option linter.unusedSectionVars false
set_option maxRecDepth 100000
variable [Sm]
theorem SP {α : Type} {a b : Bool} {x y : α} : (bif a && b then x else y) = bif a then (bif b then x else y) else y := by cases a <;> rfl
/-! ### Trails -/
def Lv (xs : LL) : Int := bif decide (ln xs = 0) then 0 else ui (xs.getD (xs.length - 1) []) 8
def Sh (xs : LL) (a : Int) : Bool := bif decide (ln xs > 0) then !decide (a < ui (xs.getD (xs.length - 1) []) 1) else true
def LU (xs : LL) (k a : Int) : Bool := !decide (ln xs ≥ 60) && (within k 1 3 && (within a 0 10000 && Sh xs a))
def MM (xs : LL) (i0 i1 i2 i3 i4 i5 i6 i7 : Int) : List U := [U.int i0, U.int i1, U.int i2, U.int i3, U.int i4, U.int i5, U.int i6, U.int i7, U.int (Mw ([[U.int (Lv xs)]] ++ [[U.int i0], [U.int i1], [U.int i2], [U.int i3], [U.int i4], [U.int i5], [U.int i6], [U.int i7]]))]
theorem Rh {xs : LL} (hx : xs.length ≤ 1048576) (h : decide (ln xs = 0) = false) : Ft (ln xs - 1) = ((xs.length - 1 : Nat) : Int) ∧ xs.length - 1 < xs.length := by
 have h : ¬ ln xs = 0 := of_decide_eq_false h
 have e : ln xs = (xs.length : Int) := rfl
 rw [e] at h ⊢
 refine ⟨?_, by omega⟩
 rw [Rt (by omega) (by omega)]; omega
theorem Yk (xs : LL) (hx : xs.length ≤ 1048576) : Nq.c xs = rI (Lv xs) := by
 rw [Nq.eq]
 unfold Lv
 cases h : decide (ln xs = 0)
 ·obtain ⟨h1, h2⟩ := Rh hx h
  rw [h1, GH h2]; rfl
 ·rfl
theorem WS (xs : LL) (hx : xs.length ≤ 1048576) : MS.c xs = rI (Lv xs) := by
 rw [MS.eq]
 unfold Lv
 cases h : decide (ln xs = 0)
 ·obtain ⟨h1, h2⟩ := Rh hx h
  rw [h1, GH h2]; rfl
 ·rfl
theorem TE {xs : LL} (h : decide (ln xs > 0) = true) : decide (ln xs = 0) = false := by
 have h : ln xs > 0 := of_decide_eq_true h
 exact decide_eq_false (by omega)
theorem XW (xs : LL) (hx : xs.length ≤ 1048576) (i0 i1 i2 i3 i4 i5 i6 i7 i8 : Int) : Np.c xs i0 i1 i2 i3 i4 i5 i6 i7 i8 = bif LU xs i0 i1 then some ⟨[[.lst (xs ++ [MM xs i0 i1 i2 i3 i4 i5 i6 i7])], [.bool true]], []⟩ else some ⟨[[.lst xs], [.bool false]], []⟩ := by
 rw [Np.eq, MD, PI, Yk xs hx, PJ.eq, FW (by omega) (by omega)]
 have hh : Ki.c ([[U.int (Lv xs)]] ++ [[U.int i0], [U.int i1], [U.int i2], [U.int i3], [U.int i4], [U.int i5], [U.int i6], [U.int i7]]) = rI (Mw ([[U.int (Lv xs)]] ++ [[U.int i0], [U.int i1], [U.int i2], [U.int i3], [U.int i4], [U.int i5], [U.int i6], [U.int i7]])) := Yh _ (by simp)
 unfold LU Sh
 simp only [q0, qb, qi, ql, MN, SP, SQ, hh]
 cases decide (ln xs ≥ 60)
 ·cases within i0 1 3
  ·rfl
  cases within i1 0 10000
  ·rfl
  rw [FW (n := xs.length + [_].length) (by simp; omega) (by simp; omega)]
  cases h : decide (ln xs > 0)
  ·rfl
  ·obtain ⟨h1, h2⟩ := Rh hx (TE h)
   rw [h1, GH h2]
   show (bif decide (i1 < ui (xs.getD (xs.length - 1) []) 1) then _ else _) = _
   cases decide (i1 < ui (xs.getD (xs.length - 1) []) 1) <;> rfl
 ·rfl
theorem WA (xs : LL) (hx : xs.length ≤ 1048576) (i0 i1 i2 i3 i4 i5 i6 i7 i8 : Int) : MR.c xs i0 i1 i2 i3 i4 i5 i6 i7 i8 = bif LU xs i0 i1 then some ⟨[[.lst (xs ++ [MM xs i0 i1 i2 i3 i4 i5 i6 i7])], [.bool true]], []⟩ else some ⟨[[.lst xs], [.bool false]], []⟩ := by
 rw [MR.eq, LK, Rc, WS xs hx, Oe.eq, FW (by omega) (by omega)]
 have hh : Ke.c ([[U.int (Lv xs)]] ++ [[U.int i0], [U.int i1], [U.int i2], [U.int i3], [U.int i4], [U.int i5], [U.int i6], [U.int i7]]) = rI (Mw ([[U.int (Lv xs)]] ++ [[U.int i0], [U.int i1], [U.int i2], [U.int i3], [U.int i4], [U.int i5], [U.int i6], [U.int i7]])) := WM _ (by simp)
 unfold LU Sh
 simp only [q0, qb, qi, ql, MN, SP, SQ, hh]
 cases decide (ln xs ≥ 60)
 ·cases within i0 1 3
  ·rfl
  cases within i1 0 10000
  ·rfl
  rw [FW (n := xs.length + [_].length) (by simp; omega) (by simp; omega)]
  cases h : decide (ln xs > 0)
  ·rfl
  ·obtain ⟨h1, h2⟩ := Rh hx (TE h)
   rw [h1, GH h2]
   show (bif decide (ui (xs.getD (xs.length - 1) []) 1 > i1) then _ else _) = _
   rw [show decide (ui (xs.getD (xs.length - 1) []) 1 > i1) = decide (i1 < ui (xs.getD (xs.length - 1) []) 1) from rfl]
   cases decide (i1 < ui (xs.getD (xs.length - 1) []) 1) <;> rfl
 ·rfl
end Go.Proofs.YtaghmjcfaplkiaaGreat.Eng
/- half -/
