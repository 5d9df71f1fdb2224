/- Grants, trails, pairs of roles, epochs, centers, points, worlds that are valid. -/
import Derived.Test.YtbanfmadialnkaaGreatPB2
import Derived.Test.YtbanfmadialnkaaGreatPC1
import Derived.Test.YtbanfmadialnkaaGreatPA10
namespace Go.Proofs.YtbanfmadialnkaaGreat.Eng
open Go.RowKit
set_option linter.unusedVariables false
set_option linter.unusedSimpArgs false
set_option linter.unusedSectionVars false
set_option maxRecDepth 100000
variable [Sm]
theorem pV {α : Type} {a b : Bool} {x y : α} : (bif a && b then x else y) = bif a then (bif b then x else y) else y := by cases a <;> rfl
/-! ### Grants -/
def Am (i : Nat) (x : List U) : Bool := decide (ui x 0 = ((i + 1 : Nat) : Int)) && (eL (ui x 1) 1 && (eL (ui x 2) 1 && (!decide (ui x 1 = ui x 2) && (within (ui x 4) 0 10000 && (within (ui x 5) 0 (i : Int) && ordered (gJ 0 5) cG (ul x 3))))))
def AX (xs : LL) : Bool := (List.range xs.length).all (fun i => Am i (xs.getD i [])) && decide (ln xs ≤ 12)
theorem ND (xs : LL) (hx : xs.length ≤ 1048576) (hs : ∀ x ∈ xs, (ul x 3).length ≤ 1048576) : lD.c xs = rB (AX xs) := by
 rw [lD.eq]
 refine dr (l0 := fun i => lD.l0 xs xs _ i) (n := xs.length) (p := fun i => Am i (xs.getD i [])) ?_ fun i hi => ?_
 ·rw [lD.ah, aQ (Nat.le_refl _)]; rfl
 ·rw [lD.ah, aR hi, bo hi, bH (by omega), wo, wo, K9 (gl xs (i : Int) 3) (hs _ (aZ hi (z := []))) 0 5, lf, dZ]
  show (bif !decide (ui (xs.getD i []) 0 = ((i + 1 : Nat) : Int)) then _ else bif !eL (ui (xs.getD i []) 1) 1 then _ else bif !eL (ui (xs.getD i []) 2) 1 then _ else bif decide (ui (xs.getD i []) 1 = ui (xs.getD i []) 2) then _ else bif !(ordered (gJ 0 5) cG (ul (xs.getD i []) 3) && true) then _ else bif !within (ui (xs.getD i []) 4) 0 10000 then _ else bif !within (ui (xs.getD i []) 5) 0 (i : Int) then _ else _) = _
  simp only [Am, pV, gL, Bool.and_true]
  generalize ordered (gJ 0 5) cG (ul (xs.getD i []) 3) = o
  generalize within (ui (xs.getD i []) 4) 0 10000 = p
  generalize within (ui (xs.getD i []) 5) 0 (i : Int) = q
  cases o <;> cases p <;> cases q <;> rfl
theorem Nr (xs : LL) (hx : xs.length ≤ 1048576) (hs : ∀ x ∈ xs, (ul x 3).length ≤ 1048576) : eE.c xs = rB (AX xs) := by
 rw [eE.eq]
 refine dr (l0 := fun i => eE.l0 xs i) (n := xs.length) (p := fun i => Am i (xs.getD i [])) ?_ fun i hi => ?_
 ·rw [eE.ah, aQ (Nat.le_refl _)]; rfl
 ·have inner : ∀ (a b c d e : Int) (f : Bool) (ys : LL), ys.length ≤ 1048576 → eE.l1 xs (i : Int) 0 a b c ys d e f = bif ordered (gJ 0 5) cG ys then eE.l0 xs ((i + 1 : Nat) : Int) else rB false := by
   intro a b c d e f ys hy
   refine ou (l0 := fun j => eE.l1 xs (i : Int) j a b c ys d e f) (n := ys.length) (p := fun j => (gJ 0 5) (ys.getD j []) && dY cG ys j) ?_ fun j hj => ?_
   ·rw [eE.cH, aQ (Nat.le_refl _), bH (n := i) (by omega)]; rfl
   ·rw [eE.cH, aR hj, bo hj, bH (by omega), eD]
    show (bif !within (v0 (ys.getD j [])) 0 5 then _ else _) = _
    unfold gJ
    cases within (v0 (ys.getD j [])) 0 5
    ·rfl
    cases j with
    | zero => rfl
    | succ j =>
     rw [k0 (by omega), bo (show j < ys.length by omega), mf]
     show (bif decide (v0 (ys.getD j []) ≥ v0 (ys.getD (j + 1) [])) then _ else _) = bif !((decide (v0 (ys.getD j []) ≥ v0 (ys.getD (j + 1) [])))) then _ else rB false
     cases decide (v0 (ys.getD j []) ≥ v0 (ys.getD (j + 1) [])) <;> rfl
  rw [eE.ah, aR hi, bo hi, bH (by omega), tF, tF, jj, eD, inner _ _ _ _ _ _ (gl xs (i : Int) 3) (hs _ (aZ hi (z := [])))]
  show (bif !decide (ui (xs.getD i []) 0 = ((i + 1 : Nat) : Int)) then _ else bif !eL (ui (xs.getD i []) 1) 1 then _ else bif !eL (ui (xs.getD i []) 2) 1 then _ else bif decide (ui (xs.getD i []) 1 = ui (xs.getD i []) 2) then _ else bif !within (ui (xs.getD i []) 4) 0 10000 then _ else bif !within (ui (xs.getD i []) 5) 0 (i : Int) then _ else bif ordered (gJ 0 5) cG (ul (xs.getD i []) 3) then _ else _) = _
  simp only [Am, pV, gL, Bool.and_true]
/-! ### Trails -/
def pH (xs : LL) : Int := bif decide (ln xs = 0) then 0 else ui (xs.getD (xs.length - 1) []) 8
def GN (xs : LL) (a : Int) : Bool := bif decide (ln xs > 0) then !decide (a < ui (xs.getD (xs.length - 1) []) 1) else true
def oa (xs : LL) (k a : Int) : Bool := !decide (ln xs ≥ 60) && (within k 1 3 && (within a 0 10000 && GN xs a))
def GO (xs : LL) (i0 i1 i2 i3 i4 i5 i6 i7 : Int) : List U := [U.int i0, U.int i1, U.int i2, U.int i3, U.int i4, U.int i5, U.int i6, U.int i7, U.int (tR ([[U.int (pH xs)]] ++ [[U.int i0], [U.int i1], [U.int i2], [U.int i3], [U.int i4], [U.int i5], [U.int i6], [U.int i7]]))]
theorem CZ {xs : LL} (hx : xs.length ≤ 1048576) (h : decide (ln xs = 0) = false) : ab (ln xs - 1) = ((xs.length - 1 : Nat) : Int) ∧ xs.length - 1 < xs.length := by
 have h : ¬ ln xs = 0 := of_decide_eq_false h
 have e : ln xs = (xs.length : Int) := rfl
 rw [e] at h ⊢
 refine ⟨?_, by omega⟩
 rw [mh (by omega) (by omega)]; omega
theorem Tb (xs : LL) (hx : xs.length ≤ 1048576) : uj.c xs = rI (pH xs) := by
 rw [uj.eq]
 unfold pH
 cases h : decide (ln xs = 0)
 ·obtain ⟨h1, h2⟩ := CZ hx h
  rw [h1, bo h2]; rfl
 ·rfl
theorem Tc (xs : LL) (hx : xs.length ≤ 1048576) : uq.c xs = rI (pH xs) := by
 rw [uq.eq]
 unfold pH
 cases h : decide (ln xs = 0)
 ·obtain ⟨h1, h2⟩ := CZ hx h
  rw [h1, bo h2]; rfl
 ·rfl
theorem La {xs : LL} (h : decide (ln xs > 0) = true) : decide (ln xs = 0) = false := by
 have h : ln xs > 0 := of_decide_eq_true h
 exact decide_eq_false (by omega)
theorem Td (xs : LL) (hx : xs.length ≤ 1048576) (i0 i1 i2 i3 i4 i5 i6 i7 i8 : Int) : xR.c xs i0 i1 i2 i3 i4 i5 i6 i7 i8 = bif oa xs i0 i1 then some ⟨[[.af (xs ++ [GO xs i0 i1 i2 i3 i4 i5 i6 i7])], [.bool true]], []⟩ else some ⟨[[.af xs], [.bool false]], []⟩ := by
 rw [xR.eq, eD, jj, Tb xs hx, ye.eq, cu (by omega) (by omega)]
 have hh : iQ.c ([[U.int (pH xs)]] ++ [[U.int i0], [U.int i1], [U.int i2], [U.int i3], [U.int i4], [U.int i5], [U.int i6], [U.int i7]]) = rI (tR ([[U.int (pH xs)]] ++ [[U.int i0], [U.int i1], [U.int i2], [U.int i3], [U.int i4], [U.int i5], [U.int i6], [U.int i7]])) := HN _ (by simp)
 unfold oa GN
 simp only [q0, qb, qi, ql, gd, pV, gL, hh]
 cases decide (ln xs ≥ 60)
 ·cases within i0 1 3
  ·rfl
  cases within i1 0 10000
  ·rfl
  rw [cu (n := xs.length + [_].length) (by simp; omega) (by simp; omega)]
  cases h : decide (ln xs > 0)
  ·rfl
  ·obtain ⟨h1, h2⟩ := CZ hx (La h)
   rw [h1, bo h2]
   show (bif decide (i1 < ui (xs.getD (xs.length - 1) []) 1) then _ else _) = _
   cases decide (i1 < ui (xs.getD (xs.length - 1) []) 1) <;> rfl
 ·rfl
theorem Te (xs : LL) (hx : xs.length ≤ 1048576) (i0 i1 i2 i3 i4 i5 i6 i7 i8 : Int) : yr.c xs i0 i1 i2 i3 i4 i5 i6 i7 i8 = bif oa xs i0 i1 then some ⟨[[.af (xs ++ [GO xs i0 i1 i2 i3 i4 i5 i6 i7])], [.bool true]], []⟩ else some ⟨[[.af xs], [.bool false]], []⟩ := by
 rw [yr.eq, dZ, lf, Tc xs hx, yu.eq, cu (by omega) (by omega)]
 have hh : iR.c ([[U.int (pH xs)]] ++ [[U.int i0], [U.int i1], [U.int i2], [U.int i3], [U.int i4], [U.int i5], [U.int i6], [U.int i7]]) = rI (tR ([[U.int (pH xs)]] ++ [[U.int i0], [U.int i1], [U.int i2], [U.int i3], [U.int i4], [U.int i5], [U.int i6], [U.int i7]])) := HO _ (by simp)
 unfold oa GN
 simp only [q0, qb, qi, ql, gd, pV, gL, hh]
 cases decide (ln xs ≥ 60)
 ·cases within i0 1 3
  ·rfl
  cases within i1 0 10000
  ·rfl
  rw [cu (n := xs.length + [_].length) (by simp; omega) (by simp; omega)]
  cases h : decide (ln xs > 0)
  ·rfl
  ·obtain ⟨h1, h2⟩ := CZ hx (La h)
   rw [h1, bo h2]
   show (bif decide (ui (xs.getD (xs.length - 1) []) 1 > i1) then _ else _) = _
   rw [show decide (ui (xs.getD (xs.length - 1) []) 1 > i1) = decide (i1 < ui (xs.getD (xs.length - 1) []) 1) from rfl]
   cases decide (i1 < ui (xs.getD (xs.length - 1) []) 1) <;> rfl
 ·rfl
/-- Two entries are the same. -/
def td (x y : List U) : Bool := decide (ui x 0 = ui y 0) && (decide (ui x 1 = ui y 1) && (decide (ui x 2 = ui y 2) && (decide (ui x 3 = ui y 3) && (decide (ui x 4 = ui y 4) && (decide (ui x 5 = ui y 5) && (decide (ui x 6 = ui y 6) && (decide (ui x 7 = ui y 7) && (decide (ui x 8 = ui y 8) && true))))))))
def bS (s : LL) (x : List U) : List U := GO s (ui x 0) (ui x 1) (ui x 2) (ui x 3) (ui x 4) (ui x 5) (ui x 6) (ui x 7)
def qY : LL → LL → Bool
 | [], _ => true
 | x :: xs, s => oa s (ui x 0) (ui x 1) && (td (bS s x) x && qY xs (s ++ [bS s x]))
theorem Lb : ∀ (xs s : LL), qY xs s = true → xs = [] ∨ xs.length + s.length ≤ 60
 | [], _, _ => .inl rfl
 | x :: xs, s, h => by
  simp only [qY, Bool.and_eq_true] at h
  obtain ⟨h1, h2, h3⟩ := h
  right
  have h4 := Lb xs _ h3
  unfold oa at h1
  simp only [Bool.and_eq_true, Bool.not_eq_true', decide_eq_false_iff_not] at h1
  have h5 := h1.1
  have e : ln s = (s.length : Int) := rfl
  rw [e] at h5
  rcases h4 with rfl | h4
  ·simp; omega
  ·simp at h4 ⊢; omega
theorem Lc (s : LL) (x : List U) : (s ++ [x]).getD s.length [] = x := by
 rw [List.getD_eq_getElem?_getD, List.getElem?_append_right (Nat.le_refl _), Nat.sub_self]; rfl
theorem Ld (xs : LL) (hx : xs.length ≤ 1048576) : ∀ (k i : Nat) (s : LL), i + k = xs.length → s.length = i → jl.l0 xs (i : Int) s = rB (qY (xs.drop i) s)
 | 0, i, s, hk, hs => by
  rw [jl.ah, aQ (by omega), List.drop_eq_nil_of_le (by omega)]; rfl
 | k + 1, i, s, hk, hs => by
  have hi : i < xs.length := by omega
  have ih := Ld xs hx k (i + 1) (s ++ [bS s (xs.getD i [])]) (by omega) (by simp; omega)
  rw [jl.ah, aR hi, bo hi, bH (by omega), Td s (by omega), pX hi]
  unfold qY
  show ((bif oa s (ui (xs.getD i []) 0) (ui (xs.getD i []) 1) then (some ⟨[[.af (s ++ [bS s (xs.getD i [])])], [.bool true]], []⟩ : O) else (some ⟨[[.af s], [.bool false]], []⟩ : O)).bind _) = _
  cases oa s (ui (xs.getD i []) 0) (ui (xs.getD i []) 1)
  ·rfl
  show ae (an (i : Int) (s ++ [bS s (xs.getD i [])]).length) _ = _
  rw [bo (show i < (s ++ [bS s (xs.getD i [])]).length by simp; omega)]
  have hg : ∀ j, gi (s ++ [bS s (xs.getD i [])]) (i : Int) j = ui (bS s (xs.getD i [])) j := fun j => by
   show (((s ++ [bS s (xs.getD i [])]).getD i []).getD j U0).toInt = _
   rw [← hs, Lc]
  show (bif !(decide (gi (s ++ [bS s (xs.getD i [])]) (i : Int) 0 = _) && (decide (gi (s ++ [bS s (xs.getD i [])]) (i : Int) 1 = _) && (decide (gi (s ++ [bS s (xs.getD i [])]) (i : Int) 2 = _) && (decide (gi (s ++ [bS s (xs.getD i [])]) (i : Int) 3 = _) && (decide (gi (s ++ [bS s (xs.getD i [])]) (i : Int) 4 = _) && (decide (gi (s ++ [bS s (xs.getD i [])]) (i : Int) 5 = _) && (decide (gi (s ++ [bS s (xs.getD i [])]) (i : Int) 6 = _) && (decide (gi (s ++ [bS s (xs.getD i [])]) (i : Int) 7 = _) && (decide (gi (s ++ [bS s (xs.getD i [])]) (i : Int) 8 = _) && true))))))))) then rB false else jl.l0 xs ((i + 1 : Nat) : Int) (s ++ [bS s (xs.getD i [])])) = _
  rw [ih]
  simp only [hg]
  show (bif !td (bS s (xs.getD i [])) (xs.getD i []) then _ else _) = rB (td (bS s (xs.getD i [])) (xs.getD i []) && _)
  cases td (bS s (xs.getD i [])) (xs.getD i []) <;> rfl
theorem Le (xs : LL) (hx : xs.length ≤ 1048576) : ∀ (k i : Nat) (s : LL), i + k = xs.length → s.length = i → kD.l0 xs (ln xs) (i : Int) s = rB (qY (xs.drop i) s)
 | 0, i, s, hk, hs => by
  rw [kD.ah, aQ (by omega), List.drop_eq_nil_of_le (by omega)]; rfl
 | k + 1, i, s, hk, hs => by
  have hi : i < xs.length := by omega
  have ih := Le xs hx k (i + 1) (s ++ [bS s (xs.getD i [])]) (by omega) (by simp; omega)
  rw [kD.ah, aR hi, bo hi, bH (by omega), Te s (by omega), pX hi]
  unfold qY
  show ((bif oa s (ui (xs.getD i []) 0) (ui (xs.getD i []) 1) then (some ⟨[[.af (s ++ [bS s (xs.getD i [])])], [.bool true]], []⟩ : O) else (some ⟨[[.af s], [.bool false]], []⟩ : O)).bind _) = _
  cases oa s (ui (xs.getD i []) 0) (ui (xs.getD i []) 1)
  ·rfl
  have e1 : ab (ln (s ++ [bS s (xs.getD i [])]) - 1) = (i : Int) := by
   have : ln (s ++ [bS s (xs.getD i [])]) = ((i + 1 : Nat) : Int) := by
    show (((s ++ [bS s (xs.getD i [])]).length : Nat) : Int) = _
    rw [List.length_append, hs]; rfl
   rw [this, k0 (by omega)]
  show ae (an (ab (ln (s ++ [bS s (xs.getD i [])]) - 1)) (s ++ [bS s (xs.getD i [])]).length) (bif !(decide (gi (s ++ [bS s (xs.getD i [])]) (ab (ln (s ++ [bS s (xs.getD i [])]) - 1)) 0 = _) && (decide (gi (s ++ [bS s (xs.getD i [])]) (ab (ln (s ++ [bS s (xs.getD i [])]) - 1)) 1 = _) && (decide (gi (s ++ [bS s (xs.getD i [])]) (ab (ln (s ++ [bS s (xs.getD i [])]) - 1)) 2 = _) && (decide (gi (s ++ [bS s (xs.getD i [])]) (ab (ln (s ++ [bS s (xs.getD i [])]) - 1)) 3 = _) && (decide (gi (s ++ [bS s (xs.getD i [])]) (ab (ln (s ++ [bS s (xs.getD i [])]) - 1)) 4 = _) && (decide (gi (s ++ [bS s (xs.getD i [])]) (ab (ln (s ++ [bS s (xs.getD i [])]) - 1)) 5 = _) && (decide (gi (s ++ [bS s (xs.getD i [])]) (ab (ln (s ++ [bS s (xs.getD i [])]) - 1)) 6 = _) && (decide (gi (s ++ [bS s (xs.getD i [])]) (ab (ln (s ++ [bS s (xs.getD i [])]) - 1)) 7 = _) && (decide (gi (s ++ [bS s (xs.getD i [])]) (ab (ln (s ++ [bS s (xs.getD i [])]) - 1)) 8 = _) && true))))))))) then rB false else kD.l0 xs (ln xs) ((i + 1 : Nat) : Int) (s ++ [bS s (xs.getD i [])])) = _
  rw [e1, bo (show i < (s ++ [bS s (xs.getD i [])]).length by simp; omega), gd]
  have hg : ∀ j, gi (s ++ [bS s (xs.getD i [])]) (i : Int) j = ui (bS s (xs.getD i [])) j := fun j => by
   show (((s ++ [bS s (xs.getD i [])]).getD i []).getD j U0).toInt = _
   rw [← hs, Lc]
  rw [ih]
  simp only [hg]
  show (bif !td (bS s (xs.getD i [])) (xs.getD i []) then _ else _) = rB (td (bS s (xs.getD i [])) (xs.getD i []) && _)
  cases td (bS s (xs.getD i [])) (xs.getD i []) <;> rfl
def lb (xs : LL) : Bool := qY xs []
theorem Nw (xs : LL) (hx : xs.length ≤ 1048576) : jl.c xs = rB (lb xs) := by
 rw [jl.eq]
 have h := Ld xs hx xs.length 0 [] (by omega) rfl
 rw [List.drop_zero] at h
 have h : jl.l0 xs 0 [] = rB (lb xs) := h
 rw [h]
 have e : ln xs = (xs.length : Int) := rfl
 cases hc : decide (ln xs > 60)
 ·rfl
 ·have hc := of_decide_eq_true hc
  show rB false = rB (lb xs)
  congr 1
  cases ht : lb xs
  ·rfl
  ·rcases Lb xs [] ht with rfl | h1
   ·exact absurd hc (by decide)
   ·simp at h1; omega
theorem Ny (xs : LL) (hx : xs.length ≤ 1048576) : kD.c xs = rB (lb xs) := by
 rw [kD.eq]
 have h := Le xs hx xs.length 0 [] (by omega) rfl
 rw [List.drop_zero] at h
 exact h
end Go.Proofs.YtbanfmadialnkaaGreat.Eng
/- half -/
