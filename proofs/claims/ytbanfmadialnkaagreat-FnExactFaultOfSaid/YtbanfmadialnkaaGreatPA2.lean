/- What functions over lists of facts, revocations, saved decisions compute. -/
import Derived.Test.YtbanfmadialnkaaGreatPA1
namespace Go.Proofs.YtbanfmadialnkaaGreat.Eng
open Go.RowKit
set_option linter.unusedVariables false
set_option linter.unusedSimpArgs false
set_option linter.unusedSectionVars false
set_option maxRecDepth 100000
variable [Sm]
def has (xs : LL) (v : Int) : Bool := xs.any fun x => decide (v0 x = v)
theorem wk (xs : LL) (hx : xs.length ≤ 4611686018427387904) (v : Int) : ga.c xs v = rB (has xs v) := by
 rw [ga.eq]
 refine (Hz (l0 := fun i => ga.l0 xs v i) (n := xs.length) (p := fun i => decide (v0 (xs.getD i []) = v)) ?_ fun i hi => ?_).trans (congrArg rB (ov xs [] fun x => decide (v0 x = v)))
 ·rw [ga.ah, aQ (Nat.le_refl _)]; rfl
 ·rw [ga.ah, aR hi, bo hi, bH (by omega)]; rfl
theorem NK (xs : LL) (hx : xs.length ≤ 4611686018427387904) (v : Int) : ll.c xs v = rI (pos (fun i => decide (v = v0 (xs.getD i []))) xs.length 0) := by
 rw [ll.eq]
 refine kj (l0 := fun i => ll.l0 xs v _ i) (n := xs.length) (p := fun i => decide (v = v0 (xs.getD i []))) ?_ fun i hi => ?_
 ·rw [ll.ah, aQ (Nat.le_refl _)]; rfl
 ·rw [ll.ah, aR hi, bo hi, bH (by omega)]; rfl
theorem nH {xs : LL} (q : List U → Bool) : decide (pos (fun i => q (xs.getD i [])) xs.length 0 ≥ 0) = xs.any q := by
 rw [Dx, ← List.range_eq_range', ov xs [] q]
theorem A6 (xs : LL) (hx : xs.length ≤ 4611686018427387904) (v : Int) : pW.c xs v = rB (has xs v) := by
 rw [pW.eq, NK xs hx]
 show rB (decide (pos _ _ _ ≥ 0)) = _
 rw [nH fun x => decide (v = v0 x)]
 simp only [has, eq_comm]
theorem NL (xs : LL) (q : List U → Bool) : (pos (fun i => q (xs.getD i [])) xs.length 0 = -1 ∧ xs.find? q = none) ∨ ∃ j : Nat, pos (fun i => q (xs.getD i [])) xs.length 0 = (j : Int) ∧ j < xs.length ∧ xs.find? q = some (xs.getD j []) := by
 have key : ∀ k i, i + k = xs.length → (pos (fun i => q (xs.getD i [])) k i = -1 ∧ (xs.drop i).find? q = none) ∨ ∃ j : Nat, pos (fun i => q (xs.getD i [])) k i = (j : Int) ∧ j < xs.length ∧ (xs.drop i).find? q = some (xs.getD j []) := by
  intro k
  induction k with
  | zero => intro i h; left; exact ⟨rfl, by rw [List.drop_eq_nil_of_le (by omega)]; rfl⟩
  | succ k ih =>
   intro i h
   have hi : i < xs.length := by omega
   rw [pX hi, List.find?_cons]
   unfold pos
   cases hq : q (xs.getD i [])
   ·simp only [Bool.false_eq_true, if_false]
    exact ih (i + 1) (by omega)
   ·right
    exact ⟨i, by simp, hi, rfl⟩
 simpa using key xs.length 0 (by omega)
/-- Where something is: -1 if nowhere. -/
def lp (xs : LL) (q : List U → Bool) : Int := pos (fun i => q (xs.getD i [])) xs.length 0
theorem HB (xs : LL) (q : List U → Bool) : (lp xs q = -1 ∧ xs.find? q = none) ∨ ∃ j : Nat, lp xs q = (j : Int) ∧ j < xs.length ∧ xs.find? q = some (xs.getD j []) := NL xs q
/-- When a serial was revoked. -/
def lq (xs : LL) (v : Int) : Int := match xs.find? fun x => decide (v0 x = v) with
 | some x => ui x 1
 | none => -1
theorem NM (xs : LL) (hx : xs.length ≤ 4611686018427387904) (v : Int) : kl.c xs v = rI (lq xs v) := by
 rw [kl.eq]
 have key : ∀ i, i ≤ xs.length → kl.l0 xs v (i : Int) = rI (lq (xs.drop i) v) := by
  refine down xs.length ?_ ?_
  ·rw [kl.ah, aQ (Nat.le_refl _), List.drop_length]; rfl
  ·intro i hi h
   rw [kl.ah, aR hi, bo hi, bH (by omega), pX hi, h]
   unfold lq
   rw [List.find?_cons]
   show (bif decide (v0 (xs.getD i []) = v) then _ else _) = _
   cases decide (v0 (xs.getD i []) = v) <;> rfl
 have := key 0 (Nat.zero_le _)
 rwa [List.drop_zero] at this
theorem NN (xs : LL) (hx : xs.length ≤ 4611686018427387904) (v : Int) : wm.c xs v = rI (lq xs v) := by
 have : lr.c xs v = rI (lp xs fun x => decide (v0 x = v)) := by
  rw [lr.eq]
  refine kj (l0 := fun i => lr.l0 xs v _ i) (n := xs.length) (p := fun i => decide (v0 (xs.getD i []) = v)) ?_ fun i hi => ?_
  ·rw [lr.ah, aQ (Nat.le_refl _)]; rfl
  ·rw [lr.ah, aR hi, bo hi, bH (by omega), A7.eq]; rfl
 rw [wm.eq, this]
 unfold lq
 simp only [q0, qi]
 rcases HB xs fun x => decide (v0 x = v) with ⟨h1, h2⟩ | ⟨j, h1, h2, h3⟩
 ·rw [h1, h2]; rfl
 ·rw [h1, h3]
  show (bif decide ((j : Int) < 0) then _ else ae (an (j : Int) xs.length) (rI (ui (xs.getD j []) 1))) = _
  rw [decide_eq_false (by omega : ¬ ((j : Int) < 0)), bo h2]; rfl
/-! ### Requests -/
def iN (p d g a o n : Int) : Bool := eL p 1 && (eL d 2 && (eL g 3 && (eL o 4 && (within a 0 5 && within n 0 10000))))
theorem Dy (p d g a o n : Int) : rl.c p d g a o n = rB (iN p d g a o n) := by simp only [rl.eq, tF, eD, jj, q0, qb, cB, cJ]; rfl
theorem Dz (p d g a o n : Int) : rn.c p d g a o n = rB (iN p d g a o n) := by simp only [rn.eq, wo, dZ, lf, q0, qb, cB, cJ]; rfl
/-! ### Facts -/
def tG (k s v now bD : Int) (x : List U) : Bool := decide (ui x 0 = k) && (decide (ui x 1 = s) && (decide (ui x 2 = v) && tH x now bD))
theorem NO (xs : LL) (hx : xs.length ≤ 4611686018427387904) (k s v now bD : Int) : iO.c xs k s v now bD = rI (lp xs (tG k s v now bD)) := by
 rw [iO.eq]
 refine kj (l0 := fun i => iO.l0 xs k s v now bD i) (n := xs.length) (p := fun i => tG k s v now bD (xs.getD i [])) ?_ fun i hi => ?_
 ·rw [iO.ah, aQ (Nat.le_refl _)]; rfl
 ·rw [iO.ah, aR hi, bo hi, bH (by omega)]
  simp only [DA, q0, qb, gd, e2, cond_true]; rfl
theorem NP (xs : LL) (hx : xs.length ≤ 4611686018427387904) (k s v now bD : Int) : wq.c xs k s v now bD = rI (lp xs (tG k s v now bD)) := by
 have : lu.c xs k s v now bD = rI (lp xs (tG k s v now bD)) := by
  rw [lu.eq]
  refine kj (l0 := fun i => lu.l0 xs k s v now bD _ i) (n := xs.length) (p := fun i => tG k s v now bD (xs.getD i [])) ?_ fun i hi => ?_
  ·rw [lu.ah, aQ (Nat.le_refl _)]; rfl
  ·rw [lu.ah, aR hi, bo hi, bH (by omega), A8.eq]
   simp only [DB, q0, qb, gd, cB, cJ, cond_true]; rfl
 rw [wq.eq, this]; rfl
def wu (k s now bD : Int) (b : Int) (x : List U) : Int := bif decide (ui x 0 = k) && (decide (ui x 1 = s) && tH x now bD) then max b (ui x 2) else b
def A9 (xs : LL) (k s now bD : Int) : Int := xs.foldl (wu k s now bD) (-1)
theorem HC (a b : Int) : tI.c a b = rI (max a b) := by
 rw [tI.eq]
 by_cases h : b > a
 ·rw [decide_eq_true h, Int.max_eq_right (by omega)]; rfl
 ·rw [decide_eq_false h, Int.max_eq_left (by omega)]; rfl
theorem NQ (xs : LL) (hx : xs.length ≤ 4611686018427387904) (k s now bD : Int) : gN.c xs k s now bD = rI (A9 xs k s now bD) := by
 rw [gN.eq]
 refine ox (l0 := fun b i => gN.l0 xs k s now bD b i) (R := rI) (st := wu k s now bD) (fun b => ?_) (fun i hi b => ?_) (-1)
 ·rw [gN.ah, aQ (Nat.le_refl _)]; rfl
 ·rw [gN.ah, aR hi, bo hi, bH (by omega)]
  simp only [DA, HC, q0, qb, qi, gd, cond_true]
  unfold wu tH
  simp only [gi, ui, Int.toNat_natCast]
  cases decide (((xs.getD i []).getD 0 U0).toInt = k) <;> cases decide (((xs.getD i []).getD 1 U0).toInt = s) <;> first | rfl | skip
  cases oy _ _ _ _ _ _ now bD <;> rfl
theorem NR (xs : LL) (hx : xs.length ≤ 4611686018427387904) (k s now bD : Int) : gO.c xs k s now bD = rI (A9 xs k s now bD) := by
 rw [gO.eq]
 refine ox (l0 := fun b i => gO.l0 k s now bD b xs _ i) (R := rI) (st := wu k s now bD) (fun b => ?_) (fun i hi b => ?_) (-1)
 ·rw [gO.ah, aQ (Nat.le_refl _)]; rfl
 ·rw [gO.ah, aR hi, bo hi, bH (by omega)]
  simp only [DB, HD, q0, qb, qi, gd, cond_true]
  unfold wu tH
  simp only [gi, ui, Int.toNat_natCast]
  cases decide (((xs.getD i []).getD 0 U0).toInt = k) <;> cases decide (((xs.getD i []).getD 1 U0).toInt = s) <;> first | rfl | skip
  cases oy _ _ _ _ _ _ now bD <;> rfl
end Go.Proofs.YtbanfmadialnkaaGreat.Eng
/- half -/
