/- Grants, trails, pairs of roles, epochs, centers, points, worlds that are valid. -/
import Derived.Test.YtbanfmadialnkaaGreatPB2
import Derived.Test.YtbanfmadialnkaaGreatPC1
import Derived.Test.YtbanfmadialnkaaGreatPA10
namespace Go.Proofs.YtbanfmadialnkaaGreat.Eng
open Go.RowKit
set_option linter.unusedVariables false
set_option linter.unusedSimpArgs false
set_option linter.unusedSectionVars false
set_option maxRecDepth 100000
variable [Sm]
theorem JV {α : Type} {a b : Bool} {x y : α} : (bif a && b then x else y) = bif a then (bif b then x else y) else y := by cases a <;> rfl
/-! ### Grants -/
def Ml (i : Nat) (x : List U) : Bool := decide (ui x 0 = ((i + 1 : Nat) : Int)) && (EL (ui x 1) 1 && (EL (ui x 2) 1 && (!decide (ui x 1 = ui x 2) && (within (ui x 4) 0 10000 && (within (ui x 5) 0 (i : Int) && ordered (FG 0 5) DT (ul x 3))))))
def Pr (xs : LL) : Bool := (List.range xs.length).all (fun i => Ml i (xs.getD i [])) && decide (ln xs ≤ 12)
theorem XR (xs : LL) (hx : xs.length ≤ 1048576) (hs : ∀ x ∈ xs, (ul x 3).length ≤ 1048576) : Ih.c xs = rB (Pr xs) := by
 rw [Ih.eq]
 refine Ee (l0 := fun i => Ih.l0 xs xs _ i) (n := xs.length) (p := fun i => Ml i (xs.getD i [])) ?_ fun i hi => ?_
 ·rw [Ih.CZ, Dq (Nat.le_refl _)]; rfl
 ·rw [Ih.CZ, Dr hi, DB hi, DG (by omega), MA, MA, Tr (gl xs (i : Int) 3) (hs _ (Du hi (z := []))) 0 5, Ie, Ez]
  show (bif !decide (ui (xs.getD i []) 0 = ((i + 1 : Nat) : Int)) then _ else bif !EL (ui (xs.getD i []) 1) 1 then _ else bif !EL (ui (xs.getD i []) 2) 1 then _ else bif decide (ui (xs.getD i []) 1 = ui (xs.getD i []) 2) then _ else bif !(ordered (FG 0 5) DT (ul (xs.getD i []) 3) && true) then _ else bif !within (ui (xs.getD i []) 4) 0 10000 then _ else bif !within (ui (xs.getD i []) 5) 0 (i : Int) then _ else _) = _
  simp only [Ml, JV, FW, Bool.and_true]
  generalize ordered (FG 0 5) DT (ul (xs.getD i []) 3) = o
  generalize within (ui (xs.getD i []) 4) 0 10000 = p
  generalize within (ui (xs.getD i []) 5) 0 (i : Int) = q
  cases o <;> cases p <;> cases q <;> rfl
theorem aax (xs : LL) (hx : xs.length ≤ 1048576) (hs : ∀ x ∈ xs, (ul x 3).length ≤ 1048576) : EJ.c xs = rB (Pr xs) := by
 rw [EJ.eq]
 refine Ee (l0 := fun i => EJ.l0 xs i) (n := xs.length) (p := fun i => Ml i (xs.getD i [])) ?_ fun i hi => ?_
 ·rw [EJ.CZ, Dq (Nat.le_refl _)]; rfl
 ·have inner : ∀ (a b c d e : Int) (f : Bool) (ys : LL), ys.length ≤ 1048576 → EJ.l1 xs (i : Int) 0 a b c ys d e f = bif ordered (FG 0 5) DT ys then EJ.l0 xs ((i + 1 : Nat) : Int) else rB false := by
   intro a b c d e f ys hy
   refine Jy (l0 := fun j => EJ.l1 xs (i : Int) j a b c ys d e f) (n := ys.length) (p := fun j => (FG 0 5) (ys.getD j []) && Eu DT ys j) ?_ fun j hj => ?_
   ·rw [EJ.DS, Dq (Nat.le_refl _), DG (n := i) (by omega)]; rfl
   ·rw [EJ.DS, Dr hj, DB hj, DG (by omega), EI]
    show (bif !within (v0 (ys.getD j [])) 0 5 then _ else _) = _
    unfold FG
    cases within (v0 (ys.getD j [])) 0 5
    ·rfl
    cases j with
    | zero => rfl
    | succ j =>
     rw [Ic (by omega), DB (show j < ys.length by omega), Io]
     show (bif decide (v0 (ys.getD j []) ≥ v0 (ys.getD (j + 1) [])) then _ else _) = bif !((decide (v0 (ys.getD j []) ≥ v0 (ys.getD (j + 1) [])))) then _ else rB false
     cases decide (v0 (ys.getD j []) ≥ v0 (ys.getD (j + 1) [])) <;> rfl
  rw [EJ.CZ, Dr hi, DB hi, DG (by omega), LJ, LJ, Hh, EI, inner _ _ _ _ _ _ (gl xs (i : Int) 3) (hs _ (Du hi (z := [])))]
  show (bif !decide (ui (xs.getD i []) 0 = ((i + 1 : Nat) : Int)) then _ else bif !EL (ui (xs.getD i []) 1) 1 then _ else bif !EL (ui (xs.getD i []) 2) 1 then _ else bif decide (ui (xs.getD i []) 1 = ui (xs.getD i []) 2) then _ else bif !within (ui (xs.getD i []) 4) 0 10000 then _ else bif !within (ui (xs.getD i []) 5) 0 (i : Int) then _ else bif ordered (FG 0 5) DT (ul (xs.getD i []) 3) then _ else _) = _
  simp only [Ml, JV, FW, Bool.and_true]
/-! ### Trails -/
def JH (xs : LL) : Int := bif decide (ln xs = 0) then 0 else ui (xs.getD (xs.length - 1) []) 8
def Sc (xs : LL) (a : Int) : Bool := bif decide (ln xs > 0) then !decide (a < ui (xs.getD (xs.length - 1) []) 1) else true
def Jo (xs : LL) (k a : Int) : Bool := !decide (ln xs ≥ 60) && (within k 1 3 && (within a 0 10000 && Sc xs a))
def Rw (xs : LL) (i0 i1 i2 i3 i4 i5 i6 i7 : Int) : List U := [U.int i0, U.int i1, U.int i2, U.int i3, U.int i4, U.int i5, U.int i6, U.int i7, U.int (Lg ([[U.int (JH xs)]] ++ [[U.int i0], [U.int i1], [U.int i2], [U.int i3], [U.int i4], [U.int i5], [U.int i6], [U.int i7]]))]
theorem Qy {xs : LL} (hx : xs.length ≤ 1048576) (h : decide (ln xs = 0) = false) : CX (ln xs - 1) = ((xs.length - 1 : Nat) : Int) ∧ xs.length - 1 < xs.length := by
 have h : ¬ ln xs = 0 := of_decide_eq_false h
 have e : ln xs = (xs.length : Int) := rfl
 rw [e] at h ⊢
 refine ⟨?_, by omega⟩
 rw [Jc (by omega) (by omega)]; omega
theorem aaD (xs : LL) (hx : xs.length ≤ 1048576) : LS.c xs = rI (JH xs) := by
 rw [LS.eq]
 unfold JH
 cases h : decide (ln xs = 0)
 ·obtain ⟨h1, h2⟩ := Qy hx h
  rw [h1, DB h2]; rfl
 ·rfl
theorem XY (xs : LL) (hx : xs.length ≤ 1048576) : Lr.c xs = rI (JH xs) := by
 rw [Lr.eq]
 unfold JH
 cases h : decide (ln xs = 0)
 ·obtain ⟨h1, h2⟩ := Qy hx h
  rw [h1, DB h2]; rfl
 ·rfl
theorem Ua {xs : LL} (h : decide (ln xs > 0) = true) : decide (ln xs = 0) = false := by
 have h : ln xs > 0 := of_decide_eq_true h
 exact decide_eq_false (by omega)
theorem ZW (xs : LL) (hx : xs.length ≤ 1048576) (i0 i1 i2 i3 i4 i5 i6 i7 i8 : Int) : OV.c xs i0 i1 i2 i3 i4 i5 i6 i7 i8 = bif Jo xs i0 i1 then some ⟨[[.CY (xs ++ [Rw xs i0 i1 i2 i3 i4 i5 i6 i7])], [.bool true]], []⟩ else some ⟨[[.CY xs], [.bool false]], []⟩ := by
 rw [OV.eq, EI, Hh, aaD xs hx, OX.eq, DM (by omega) (by omega)]
 have hh : GZ.c ([[U.int (JH xs)]] ++ [[U.int i0], [U.int i1], [U.int i2], [U.int i3], [U.int i4], [U.int i5], [U.int i6], [U.int i7]]) = rI (Lg ([[U.int (JH xs)]] ++ [[U.int i0], [U.int i1], [U.int i2], [U.int i3], [U.int i4], [U.int i5], [U.int i6], [U.int i7]])) := UH _ (by simp)
 unfold Jo Sc
 simp only [q0, qb, qi, ql, FE, JV, FW, hh]
 cases decide (ln xs ≥ 60)
 ·cases within i0 1 3
  ·rfl
  cases within i1 0 10000
  ·rfl
  rw [DM (n := xs.length + [_].length) (by simp; omega) (by simp; omega)]
  cases h : decide (ln xs > 0)
  ·rfl
  ·obtain ⟨h1, h2⟩ := Qy hx (Ua h)
   rw [h1, DB h2]
   show (bif decide (i1 < ui (xs.getD (xs.length - 1) []) 1) then _ else _) = _
   cases decide (i1 < ui (xs.getD (xs.length - 1) []) 1) <;> rfl
 ·rfl
theorem Xs (xs : LL) (hx : xs.length ≤ 1048576) (i0 i1 i2 i3 i4 i5 i6 i7 i8 : Int) : MC.c xs i0 i1 i2 i3 i4 i5 i6 i7 i8 = bif Jo xs i0 i1 then some ⟨[[.CY (xs ++ [Rw xs i0 i1 i2 i3 i4 i5 i6 i7])], [.bool true]], []⟩ else some ⟨[[.CY xs], [.bool false]], []⟩ := by
 rw [MC.eq, Ez, Ie, XY xs hx, MF.eq, DM (by omega) (by omega)]
 have hh : GQ.c ([[U.int (JH xs)]] ++ [[U.int i0], [U.int i1], [U.int i2], [U.int i3], [U.int i4], [U.int i5], [U.int i6], [U.int i7]]) = rI (Lg ([[U.int (JH xs)]] ++ [[U.int i0], [U.int i1], [U.int i2], [U.int i3], [U.int i4], [U.int i5], [U.int i6], [U.int i7]])) := Ty _ (by simp)
 unfold Jo Sc
 simp only [q0, qb, qi, ql, FE, JV, FW, hh]
 cases decide (ln xs ≥ 60)
 ·cases within i0 1 3
  ·rfl
  cases within i1 0 10000
  ·rfl
  rw [DM (n := xs.length + [_].length) (by simp; omega) (by simp; omega)]
  cases h : decide (ln xs > 0)
  ·rfl
  ·obtain ⟨h1, h2⟩ := Qy hx (Ua h)
   rw [h1, DB h2]
   show (bif decide (ui (xs.getD (xs.length - 1) []) 1 > i1) then _ else _) = _
   rw [show decide (ui (xs.getD (xs.length - 1) []) 1 > i1) = decide (i1 < ui (xs.getD (xs.length - 1) []) 1) from rfl]
   cases decide (i1 < ui (xs.getD (xs.length - 1) []) 1) <;> rfl
 ·rfl
/-- Two entries are the same. -/
def Kr (x y : List U) : Bool := decide (ui x 0 = ui y 0) && (decide (ui x 1 = ui y 1) && (decide (ui x 2 = ui y 2) && (decide (ui x 3 = ui y 3) && (decide (ui x 4 = ui y 4) && (decide (ui x 5 = ui y 5) && (decide (ui x 6 = ui y 6) && (decide (ui x 7 = ui y 7) && (decide (ui x 8 = ui y 8) && true))))))))
def DI (s : LL) (x : List U) : List U := Rw s (ui x 0) (ui x 1) (ui x 2) (ui x 3) (ui x 4) (ui x 5) (ui x 6) (ui x 7)
def Kl : LL → LL → Bool
 | [], _ => true
 | x :: xs, s => Jo s (ui x 0) (ui x 1) && (Kr (DI s x) x && Kl xs (s ++ [DI s x]))
theorem Vg : ∀ (xs s : LL), Kl xs s = true → xs = [] ∨ xs.length + s.length ≤ 60
 | [], _, _ => .inl rfl
 | x :: xs, s, h => by
  simp only [Kl, Bool.and_eq_true] at h
  obtain ⟨h1, h2, h3⟩ := h
  right
  have h4 := Vg xs _ h3
  unfold Jo at h1
  simp only [Bool.and_eq_true, Bool.not_eq_true', decide_eq_false_iff_not] at h1
  have h5 := h1.1
  have e : ln s = (s.length : Int) := rfl
  rw [e] at h5
  rcases h4 with rfl | h4
  ·simp; omega
  ·simp at h4 ⊢; omega
theorem SP (s : LL) (x : List U) : (s ++ [x]).getD s.length [] = x := by
 rw [List.getD_eq_getElem?_getD, List.getElem?_append_right (Nat.le_refl _), Nat.sub_self]; rfl
theorem UT (xs : LL) (hx : xs.length ≤ 1048576) : ∀ (k i : Nat) (s : LL), i + k = xs.length → s.length = i → Hl.l0 xs (i : Int) s = rB (Kl (xs.drop i) s)
 | 0, i, s, hk, hs => by
  rw [Hl.CZ, Dq (by omega), List.drop_eq_nil_of_le (by omega)]; rfl
 | k + 1, i, s, hk, hs => by
  have hi : i < xs.length := by omega
  have ih := UT xs hx k (i + 1) (s ++ [DI s (xs.getD i [])]) (by omega) (by simp; omega)
  rw [Hl.CZ, Dr hi, DB hi, DG (by omega), ZW s (by omega), JW hi]
  unfold Kl
  show ((bif Jo s (ui (xs.getD i []) 0) (ui (xs.getD i []) 1) then (some ⟨[[.CY (s ++ [DI s (xs.getD i [])])], [.bool true]], []⟩ : O) else (some ⟨[[.CY s], [.bool false]], []⟩ : O)).bind _) = _
  cases Jo s (ui (xs.getD i []) 0) (ui (xs.getD i []) 1)
  ·rfl
  show Cu (dk (i : Int) (s ++ [DI s (xs.getD i [])]).length) _ = _
  rw [DB (show i < (s ++ [DI s (xs.getD i [])]).length by simp; omega)]
  have hg : ∀ j, gi (s ++ [DI s (xs.getD i [])]) (i : Int) j = ui (DI s (xs.getD i [])) j := fun j => by
   show (((s ++ [DI s (xs.getD i [])]).getD i []).getD j U0).toInt = _
   rw [← hs, SP]
  show (bif !(decide (gi (s ++ [DI s (xs.getD i [])]) (i : Int) 0 = _) && (decide (gi (s ++ [DI s (xs.getD i [])]) (i : Int) 1 = _) && (decide (gi (s ++ [DI s (xs.getD i [])]) (i : Int) 2 = _) && (decide (gi (s ++ [DI s (xs.getD i [])]) (i : Int) 3 = _) && (decide (gi (s ++ [DI s (xs.getD i [])]) (i : Int) 4 = _) && (decide (gi (s ++ [DI s (xs.getD i [])]) (i : Int) 5 = _) && (decide (gi (s ++ [DI s (xs.getD i [])]) (i : Int) 6 = _) && (decide (gi (s ++ [DI s (xs.getD i [])]) (i : Int) 7 = _) && (decide (gi (s ++ [DI s (xs.getD i [])]) (i : Int) 8 = _) && true))))))))) then rB false else Hl.l0 xs ((i + 1 : Nat) : Int) (s ++ [DI s (xs.getD i [])])) = _
  rw [ih]
  simp only [hg]
  show (bif !Kr (DI s (xs.getD i [])) (xs.getD i []) then _ else _) = rB (Kr (DI s (xs.getD i [])) (xs.getD i []) && _)
  cases Kr (DI s (xs.getD i [])) (xs.getD i []) <;> rfl
theorem TH (xs : LL) (hx : xs.length ≤ 1048576) : ∀ (k i : Nat) (s : LL), i + k = xs.length → s.length = i → Hy.l0 xs (ln xs) (i : Int) s = rB (Kl (xs.drop i) s)
 | 0, i, s, hk, hs => by
  rw [Hy.CZ, Dq (by omega), List.drop_eq_nil_of_le (by omega)]; rfl
 | k + 1, i, s, hk, hs => by
  have hi : i < xs.length := by omega
  have ih := TH xs hx k (i + 1) (s ++ [DI s (xs.getD i [])]) (by omega) (by simp; omega)
  rw [Hy.CZ, Dr hi, DB hi, DG (by omega), Xs s (by omega), JW hi]
  unfold Kl
  show ((bif Jo s (ui (xs.getD i []) 0) (ui (xs.getD i []) 1) then (some ⟨[[.CY (s ++ [DI s (xs.getD i [])])], [.bool true]], []⟩ : O) else (some ⟨[[.CY s], [.bool false]], []⟩ : O)).bind _) = _
  cases Jo s (ui (xs.getD i []) 0) (ui (xs.getD i []) 1)
  ·rfl
  have e1 : CX (ln (s ++ [DI s (xs.getD i [])]) - 1) = (i : Int) := by
   have : ln (s ++ [DI s (xs.getD i [])]) = ((i + 1 : Nat) : Int) := by
    show (((s ++ [DI s (xs.getD i [])]).length : Nat) : Int) = _
    rw [List.length_append, hs]; rfl
   rw [this, Ic (by omega)]
  show Cu (dk (CX (ln (s ++ [DI s (xs.getD i [])]) - 1)) (s ++ [DI s (xs.getD i [])]).length) (bif !(decide (gi (s ++ [DI s (xs.getD i [])]) (CX (ln (s ++ [DI s (xs.getD i [])]) - 1)) 0 = _) && (decide (gi (s ++ [DI s (xs.getD i [])]) (CX (ln (s ++ [DI s (xs.getD i [])]) - 1)) 1 = _) && (decide (gi (s ++ [DI s (xs.getD i [])]) (CX (ln (s ++ [DI s (xs.getD i [])]) - 1)) 2 = _) && (decide (gi (s ++ [DI s (xs.getD i [])]) (CX (ln (s ++ [DI s (xs.getD i [])]) - 1)) 3 = _) && (decide (gi (s ++ [DI s (xs.getD i [])]) (CX (ln (s ++ [DI s (xs.getD i [])]) - 1)) 4 = _) && (decide (gi (s ++ [DI s (xs.getD i [])]) (CX (ln (s ++ [DI s (xs.getD i [])]) - 1)) 5 = _) && (decide (gi (s ++ [DI s (xs.getD i [])]) (CX (ln (s ++ [DI s (xs.getD i [])]) - 1)) 6 = _) && (decide (gi (s ++ [DI s (xs.getD i [])]) (CX (ln (s ++ [DI s (xs.getD i [])]) - 1)) 7 = _) && (decide (gi (s ++ [DI s (xs.getD i [])]) (CX (ln (s ++ [DI s (xs.getD i [])]) - 1)) 8 = _) && true))))))))) then rB false else Hy.l0 xs (ln xs) ((i + 1 : Nat) : Int) (s ++ [DI s (xs.getD i [])])) = _
  rw [e1, DB (show i < (s ++ [DI s (xs.getD i [])]).length by simp; omega), FE]
  have hg : ∀ j, gi (s ++ [DI s (xs.getD i [])]) (i : Int) j = ui (DI s (xs.getD i [])) j := fun j => by
   show (((s ++ [DI s (xs.getD i [])]).getD i []).getD j U0).toInt = _
   rw [← hs, SP]
  rw [ih]
  simp only [hg]
  show (bif !Kr (DI s (xs.getD i [])) (xs.getD i []) then _ else _) = rB (Kr (DI s (xs.getD i [])) (xs.getD i []) && _)
  cases Kr (DI s (xs.getD i [])) (xs.getD i []) <;> rfl
def Il (xs : LL) : Bool := Kl xs []
theorem aaS (xs : LL) (hx : xs.length ≤ 1048576) : Hl.c xs = rB (Il xs) := by
 rw [Hl.eq]
 have h := UT xs hx xs.length 0 [] (by omega) rfl
 rw [List.drop_zero] at h
 have h : Hl.l0 xs 0 [] = rB (Il xs) := h
 rw [h]
 have e : ln xs = (xs.length : Int) := rfl
 cases hc : decide (ln xs > 60)
 ·rfl
 ·have hc := of_decide_eq_true hc
  show rB false = rB (Il xs)
  congr 1
  cases ht : Il xs
  ·rfl
  ·rcases Vg xs [] ht with rfl | h1
   ·exact absurd hc (by decide)
   ·simp at h1; omega
theorem Yl (xs : LL) (hx : xs.length ≤ 1048576) : Hy.c xs = rB (Il xs) := by
 rw [Hy.eq]
 have h := TH xs hx xs.length 0 [] (by omega) rfl
 rw [List.drop_zero] at h
 exact h
end Go.Proofs.YtbanfmadialnkaaGreat.Eng
/- half -/
