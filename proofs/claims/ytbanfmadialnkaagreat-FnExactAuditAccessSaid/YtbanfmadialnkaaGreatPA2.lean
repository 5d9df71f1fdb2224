/- What functions over lists of facts, revocations, saved decisions compute. -/
import Derived.Test.YtbanfmadialnkaaGreatPA1
namespace Go.Proofs.YtbanfmadialnkaaGreat.Eng
open Go.RowKit
set_option linter.unusedVariables false
set_option linter.unusedSimpArgs false
set_option linter.unusedSectionVars false
set_option maxRecDepth 100000
variable [Sm]
def has (xs : LL) (v : Int) : Bool := xs.any fun x => decide (v0 x = v)
theorem OO (xs : LL) (hx : xs.length ≤ 4611686018427387904) (v : Int) : FV.c xs v = rB (has xs v) := by
 rw [FV.eq]
 refine (SO (l0 := fun i => FV.l0 xs v i) (n := xs.length) (p := fun i => decide (v0 (xs.getD i []) = v)) ?_ fun i hi => ?_).trans (congrArg rB (JQ xs [] fun x => decide (v0 x = v)))
 ·rw [FV.CZ, Dq (Nat.le_refl _)]; rfl
 ·rw [FV.CZ, Dr hi, DB hi, DG (by omega)]; rfl
theorem XT (xs : LL) (hx : xs.length ≤ 4611686018427387904) (v : Int) : ID.c xs v = rI (pos (fun i => decide (v = v0 (xs.getD i []))) xs.length 0) := by
 rw [ID.eq]
 refine Hs (l0 := fun i => ID.l0 xs v _ i) (n := xs.length) (p := fun i => decide (v = v0 (xs.getD i []))) ?_ fun i hi => ?_
 ·rw [ID.CZ, Dq (Nat.le_refl _)]; rfl
 ·rw [ID.CZ, Dr hi, DB hi, DG (by omega)]; rfl
theorem Jn {xs : LL} (q : List U → Bool) : decide (pos (fun i => q (xs.getD i [])) xs.length 0 ≥ 0) = xs.any q := by
 rw [Sh, ← List.range_eq_range', JQ xs [] q]
theorem PX (xs : LL) (hx : xs.length ≤ 4611686018427387904) (v : Int) : Kg.c xs v = rB (has xs v) := by
 rw [Kg.eq, XT xs hx]
 show rB (decide (pos _ _ _ ≥ 0)) = _
 rw [Jn fun x => decide (v = v0 x)]
 simp only [has, eq_comm]
theorem WG (xs : LL) (q : List U → Bool) : (pos (fun i => q (xs.getD i [])) xs.length 0 = -1 ∧ xs.find? q = none) ∨ ∃ j : Nat, pos (fun i => q (xs.getD i [])) xs.length 0 = (j : Int) ∧ j < xs.length ∧ xs.find? q = some (xs.getD j []) := by
 have key : ∀ k i, i + k = xs.length → (pos (fun i => q (xs.getD i [])) k i = -1 ∧ (xs.drop i).find? q = none) ∨ ∃ j : Nat, pos (fun i => q (xs.getD i [])) k i = (j : Int) ∧ j < xs.length ∧ (xs.drop i).find? q = some (xs.getD j []) := by
  intro k
  induction k with
  | zero => intro i h; left; exact ⟨rfl, by rw [List.drop_eq_nil_of_le (by omega)]; rfl⟩
  | succ k ih =>
   intro i h
   have hi : i < xs.length := by omega
   rw [JW hi, List.find?_cons]
   unfold pos
   cases hq : q (xs.getD i [])
   ·simp only [Bool.false_eq_true, if_false]
    exact ih (i + 1) (by omega)
   ·right
    exact ⟨i, by simp, hi, rfl⟩
 simpa using key xs.length 0 (by omega)
/-- Where something is: -1 if nowhere. -/
def Im (xs : LL) (q : List U → Bool) : Int := pos (fun i => q (xs.getD i [])) xs.length 0
theorem TY (xs : LL) (q : List U → Bool) : (Im xs q = -1 ∧ xs.find? q = none) ∨ ∃ j : Nat, Im xs q = (j : Int) ∧ j < xs.length ∧ xs.find? q = some (xs.getD j []) := WG xs q
/-- When a serial was revoked. -/
def Iq (xs : LL) (v : Int) : Int := match xs.find? fun x => decide (v0 x = v) with
 | some x => ui x 1
 | none => -1
theorem aaL (xs : LL) (hx : xs.length ≤ 4611686018427387904) (v : Int) : HZ.c xs v = rI (Iq xs v) := by
 rw [HZ.eq]
 have key : ∀ i, i ≤ xs.length → HZ.l0 xs v (i : Int) = rI (Iq (xs.drop i) v) := by
  refine down xs.length ?_ ?_
  ·rw [HZ.CZ, Dq (Nat.le_refl _), List.drop_length]; rfl
  ·intro i hi h
   rw [HZ.CZ, Dr hi, DB hi, DG (by omega), JW hi, h]
   unfold Iq
   rw [List.find?_cons]
   show (bif decide (v0 (xs.getD i []) = v) then _ else _) = _
   cases decide (v0 (xs.getD i []) = v) <;> rfl
 have := key 0 (Nat.zero_le _)
 rwa [List.drop_zero] at this
theorem Yg (xs : LL) (hx : xs.length ≤ 4611686018427387904) (v : Int) : MV.c xs v = rI (Iq xs v) := by
 have : Ix.c xs v = rI (Im xs fun x => decide (v0 x = v)) := by
  rw [Ix.eq]
  refine Hs (l0 := fun i => Ix.l0 xs v _ i) (n := xs.length) (p := fun i => decide (v0 (xs.getD i []) = v)) ?_ fun i hi => ?_
  ·rw [Ix.CZ, Dq (Nat.le_refl _)]; rfl
  ·rw [Ix.CZ, Dr hi, DB hi, DG (by omega), Qo.eq]; rfl
 rw [MV.eq, this]
 unfold Iq
 simp only [q0, qi]
 rcases TY xs fun x => decide (v0 x = v) with ⟨h1, h2⟩ | ⟨j, h1, h2, h3⟩
 ·rw [h1, h2]; rfl
 ·rw [h1, h3]
  show (bif decide ((j : Int) < 0) then _ else Cu (dk (j : Int) xs.length) (rI (ui (xs.getD j []) 1))) = _
  rw [decide_eq_false (by omega : ¬ ((j : Int) < 0)), DB h2]; rfl
/-! ### Requests -/
def GV (p d g a o n : Int) : Bool := EL p 1 && (EL d 2 && (EL g 3 && (EL o 4 && (within a 0 5 && within n 0 10000))))
theorem SH (p d g a o n : Int) : KS.c p d g a o n = rB (GV p d g a o n) := by simp only [KS.eq, LJ, EI, Hh, q0, qb, cB, DR]; rfl
theorem RT (p d g a o n : Int) : Kz.c p d g a o n = rB (GV p d g a o n) := by simp only [Kz.eq, MA, Ez, Ie, q0, qb, cB, DR]; rfl
/-! ### Facts -/
def Ld (k s v now DE : Int) (x : List U) : Bool := decide (ui x 0 = k) && (decide (ui x 1 = s) && (decide (ui x 2 = v) && Lc x now DE))
theorem aau (xs : LL) (hx : xs.length ≤ 4611686018427387904) (k s v now DE : Int) : GY.c xs k s v now DE = rI (Im xs (Ld k s v now DE)) := by
 rw [GY.eq]
 refine Hs (l0 := fun i => GY.l0 xs k s v now DE i) (n := xs.length) (p := fun i => Ld k s v now DE (xs.getD i [])) ?_ fun i hi => ?_
 ·rw [GY.CZ, Dq (Nat.le_refl _)]; rfl
 ·rw [GY.CZ, Dr hi, DB hi, DG (by omega)]
  simp only [SF, q0, qb, FE, e2, cond_true]; rfl
theorem XP (xs : LL) (hx : xs.length ≤ 4611686018427387904) (k s v now DE : Int) : MJ.c xs k s v now DE = rI (Im xs (Ld k s v now DE)) := by
 have : Ir.c xs k s v now DE = rI (Im xs (Ld k s v now DE)) := by
  rw [Ir.eq]
  refine Hs (l0 := fun i => Ir.l0 xs k s v now DE _ i) (n := xs.length) (p := fun i => Ld k s v now DE (xs.getD i [])) ?_ fun i hi => ?_
  ·rw [Ir.CZ, Dq (Nat.le_refl _)]; rfl
  ·rw [Ir.CZ, Dr hi, DB hi, DG (by omega), Qf.eq]
   simp only [RQ, q0, qb, FE, cB, DR, cond_true]; rfl
 rw [MJ.eq, this]; rfl
def Mg (k s now DE : Int) (b : Int) (x : List U) : Int := bif decide (ui x 0 = k) && (decide (ui x 1 = s) && Lc x now DE) then max b (ui x 2) else b
def Pw (xs : LL) (k s now DE : Int) : Int := xs.foldl (Mg k s now DE) (-1)
theorem UJ (a b : Int) : LU.c a b = rI (max a b) := by
 rw [LU.eq]
 by_cases h : b > a
 ·rw [decide_eq_true h, Int.max_eq_right (by omega)]; rfl
 ·rw [decide_eq_false h, Int.max_eq_left (by omega)]; rfl
theorem aac (xs : LL) (hx : xs.length ≤ 4611686018427387904) (k s now DE : Int) : GK.c xs k s now DE = rI (Pw xs k s now DE) := by
 rw [GK.eq]
 refine JC (l0 := fun b i => GK.l0 xs k s now DE b i) (R := rI) (st := Mg k s now DE) (fun b => ?_) (fun i hi b => ?_) (-1)
 ·rw [GK.CZ, Dq (Nat.le_refl _)]; rfl
 ·rw [GK.CZ, Dr hi, DB hi, DG (by omega)]
  simp only [SF, UJ, q0, qb, qi, FE, cond_true]
  unfold Mg Lc
  simp only [gi, ui, Int.toNat_natCast]
  cases decide (((xs.getD i []).getD 0 U0).toInt = k) <;> cases decide (((xs.getD i []).getD 1 U0).toInt = s) <;> first | rfl | skip
  cases JD _ _ _ _ _ _ now DE <;> rfl
theorem Xy (xs : LL) (hx : xs.length ≤ 4611686018427387904) (k s now DE : Int) : FX.c xs k s now DE = rI (Pw xs k s now DE) := by
 rw [FX.eq]
 refine JC (l0 := fun b i => FX.l0 k s now DE b xs _ i) (R := rI) (st := Mg k s now DE) (fun b => ?_) (fun i hi b => ?_) (-1)
 ·rw [FX.CZ, Dq (Nat.le_refl _)]; rfl
 ·rw [FX.CZ, Dr hi, DB hi, DG (by omega)]
  simp only [RQ, TO, q0, qb, qi, FE, cond_true]
  unfold Mg Lc
  simp only [gi, ui, Int.toNat_natCast]
  cases decide (((xs.getD i []).getD 0 U0).toInt = k) <;> cases decide (((xs.getD i []).getD 1 U0).toInt = s) <;> first | rfl | skip
  cases JD _ _ _ _ _ _ now DE <;> rfl
end Go.Proofs.YtbanfmadialnkaaGreat.Eng
/- half -/
