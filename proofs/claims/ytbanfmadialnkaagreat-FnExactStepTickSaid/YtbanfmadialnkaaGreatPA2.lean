/- What functions over lists of facts, revocations, saved decisions compute. -/
import Derived.Test.YtbanfmadialnkaaGreatPA1
namespace Go.Proofs.YtbanfmadialnkaaGreat.Eng
open Go.RowKit
set_option linter.unusedVariables false
set_option linter.unusedSimpArgs false
set_option linter.unusedSectionVars false
set_option maxRecDepth 100000
variable [Sm]
def has (xs : LL) (v : Int) : Bool := xs.any fun x => decide (v0 x = v)
theorem aaz (xs : LL) (hx : xs.length ≤ 4611686018427387904) (v : Int) : Ju.c xs v = rB (has xs v) := by
 rw [Ju.eq]
 refine (VW (l0 := fun i => Ju.l0 xs v i) (n := xs.length) (p := fun i => decide (v0 (xs.getD i []) = v)) ?_ fun i hi => ?_).trans (congrArg rB (Rw xs [] fun x => decide (v0 x = v)))
 ·rw [Ju.Da, Dj (Nat.le_refl _)]; rfl
 ·rw [Ju.Da, Di hi, Dw hi, DG (by omega)]; rfl
theorem Yy (xs : LL) (hx : xs.length ≤ 4611686018427387904) (v : Int) : Jr.c xs v = rI (pos (fun i => decide (v = v0 (xs.getD i []))) xs.length 0) := by
 rw [Jr.eq]
 refine JG (l0 := fun i => Jr.l0 xs v _ i) (n := xs.length) (p := fun i => decide (v = v0 (xs.getD i []))) ?_ fun i hi => ?_
 ·rw [Jr.Da, Dj (Nat.le_refl _)]; rfl
 ·rw [Jr.Da, Di hi, Dw hi, DG (by omega)]; rfl
theorem RN {xs : LL} (q : List U → Bool) : decide (pos (fun i => q (xs.getD i [])) xs.length 0 ≥ 0) = xs.any q := by
 rw [UG, ← List.range_eq_range', Rw xs [] q]
theorem Yv (xs : LL) (hx : xs.length ≤ 4611686018427387904) (v : Int) : PK.c xs v = rB (has xs v) := by
 rw [PK.eq, Yy xs hx]
 show rB (decide (pos _ _ _ ≥ 0)) = _
 rw [RN fun x => decide (v = v0 x)]
 simp only [has, eq_comm]
theorem XB (xs : LL) (q : List U → Bool) : (pos (fun i => q (xs.getD i [])) xs.length 0 = -1 ∧ xs.find? q = none) ∨ ∃ j : Nat, pos (fun i => q (xs.getD i [])) xs.length 0 = (j : Int) ∧ j < xs.length ∧ xs.find? q = some (xs.getD j []) := by
 have key : ∀ k i, i + k = xs.length → (pos (fun i => q (xs.getD i [])) k i = -1 ∧ (xs.drop i).find? q = none) ∨ ∃ j : Nat, pos (fun i => q (xs.getD i [])) k i = (j : Int) ∧ j < xs.length ∧ (xs.drop i).find? q = some (xs.getD j []) := by
  intro k
  induction k with
  | zero => intro i h; left; exact ⟨rfl, by rw [List.drop_eq_nil_of_le (by omega)]; rfl⟩
  | succ k ih =>
   intro i h
   have hi : i < xs.length := by omega
   rw [LZ hi, List.find?_cons]
   unfold pos
   cases hq : q (xs.getD i [])
   ·simp only [Bool.false_eq_true, if_false]
    exact ih (i + 1) (by omega)
   ·right
    exact ⟨i, by simp, hi, rfl⟩
 simpa using key xs.length 0 (by omega)
/-- Where something is: -1 if nowhere. -/
def Ds (xs : LL) (q : List U → Bool) : Int := pos (fun i => q (xs.getD i [])) xs.length 0
theorem KU (xs : LL) (q : List U → Bool) : (Ds xs q = -1 ∧ xs.find? q = none) ∨ ∃ j : Nat, Ds xs q = (j : Int) ∧ j < xs.length ∧ xs.find? q = some (xs.getD j []) := XB xs q
/-- When a serial was revoked. -/
def MI (xs : LL) (v : Int) : Int := match xs.find? fun x => decide (v0 x = v) with
 | some x => ui x 1
 | none => -1
theorem aaL (xs : LL) (hx : xs.length ≤ 4611686018427387904) (v : Int) : Jt.c xs v = rI (MI xs v) := by
 rw [Jt.eq]
 have key : ∀ i, i ≤ xs.length → Jt.l0 xs v (i : Int) = rI (MI (xs.drop i) v) := by
  refine down xs.length ?_ ?_
  ·rw [Jt.Da, Dj (Nat.le_refl _), List.drop_length]; rfl
  ·intro i hi h
   rw [Jt.Da, Di hi, Dw hi, DG (by omega), LZ hi, h]
   unfold MI
   rw [List.find?_cons]
   show (bif decide (v0 (xs.getD i []) = v) then _ else _) = _
   cases decide (v0 (xs.getD i []) = v) <;> rfl
 have := key 0 (Nat.zero_le _)
 rwa [List.drop_zero] at this
theorem YH (xs : LL) (hx : xs.length ≤ 4611686018427387904) (v : Int) : Ob.c xs v = rI (MI xs v) := by
 have : Jp.c xs v = rI (Ds xs fun x => decide (v0 x = v)) := by
  rw [Jp.eq]
  refine JG (l0 := fun i => Jp.l0 xs v _ i) (n := xs.length) (p := fun i => decide (v0 (xs.getD i []) = v)) ?_ fun i hi => ?_
  ·rw [Jp.Da, Dj (Nat.le_refl _)]; rfl
  ·rw [Jp.Da, Di hi, Dw hi, DG (by omega), Ri.eq]; rfl
 rw [Ob.eq, this]
 unfold MI
 simp only [q0, qi]
 rcases KU xs fun x => decide (v0 x = v) with ⟨h1, h2⟩ | ⟨j, h1, h2, h3⟩
 ·rw [h1, h2]; rfl
 ·rw [h1, h3]
  show (bif decide ((j : Int) < 0) then _ else Cu (dk (j : Int) xs.length) (rI (ui (xs.getD j []) 1))) = _
  rw [decide_eq_false (by omega : ¬ ((j : Int) < 0)), Dw h2]; rfl
def Lp (xs : LL) (v now : Int) : Bool := within (MI xs v) 0 now
theorem aaN (xs : LL) (hx : xs.length ≤ 4611686018427387904) (v now : Int) : PY.c xs v now = rB (Lp xs v now) := by
 rw [PY.eq, aaL _ hx]; simp only [q0, qi, cB, En]; rfl
theorem YJ (xs : LL) (hx : xs.length ≤ 4611686018427387904) (v now : Int) : NV.c xs v now = rB (Lp xs v now) := by
 rw [NV.eq, YH _ hx]; simp only [q0, qi, qb, Hr]; rfl
/-! ### Requests -/
def Iq (p d g a o n : Int) : Bool := IA p 1 && (IA d 2 && (IA g 3 && (IA o 4 && (within a 0 5 && within n 0 10000))))
theorem Tu (p d g a o n : Int) : LQ.c p d g a o n = rB (Iq p d g a o n) := by simp only [LQ.eq, Tt, IP, MJ, q0, qb, cB, En]; rfl
theorem Sv (p d g a o n : Int) : LC.c p d g a o n = rB (Iq p d g a o n) := by simp only [LC.eq, Su, Hr, NL, q0, qb, cB, En]; rfl
def MK (a0 a1 a2 a3 a4 b0 b1 b2 b3 b4 : Int) : Bool := decide (a0 = b0) && (decide (a1 = b1) && (decide (a2 = b2) && (decide (a3 = b3) && decide (a4 = b4))))
theorem Vs (a0 a1 a2 a3 a4 a5 b0 b1 b2 b3 b4 b5 : Int) : MR.c a0 a1 a2 a3 a4 a5 b0 b1 b2 b3 b4 b5 = rB (MK a0 a1 a2 a3 a4 b0 b1 b2 b3 b4) := by
 simp only [MR.eq, KG.eq, q0]
 show rB (decide (a0 = b0) && (decide (a1 = b1) && (decide (a2 = b2) && (decide (a3 = b3) && (decide (a4 = b4) && (decide ((0 : Int) = 0) && true)))))) = _
 simp [MK]
theorem Um (a0 a1 a2 a3 a4 a5 b0 b1 b2 b3 b4 b5 : Int) : Ml.c a0 a1 a2 a3 a4 a5 b0 b1 b2 b3 b4 b5 = rB (MK a0 a1 a2 a3 a4 b0 b1 b2 b3 b4) := by
 simp only [Ml.eq, KM.eq, q0]
 show rB (decide (a0 = b0) && (decide (a1 = b1) && (decide (a2 = b2) && (decide (a3 = b3) && (decide (a4 = b4) && (decide (b5 = b5) && true)))))) = _
 simp [MK]
/-- A saved decision's row answers a request. -/
def IQ (p d g a o n : Int) (x : List U) : Bool := MK (ui x 0) (ui x 1) (ui x 2) (ui x 3) (ui x 4) p d g a o && (decide (ui x 5 ≤ n) && decide (n ≤ ui x 7))
theorem aaU (xs : LL) (hx : xs.length ≤ 4611686018427387904) (p d g a o n : Int) : Is.c xs p d g a o n = rI (Ds xs (IQ p d g a o n)) := by
 rw [Is.eq]
 refine JG (l0 := fun i => Is.l0 xs i p d g a o n) (n := xs.length) (p := fun i => IQ p d g a o n (xs.getD i [])) ?_ fun i hi => ?_
 ·rw [Is.Da, Dj (Nat.le_refl _)]; rfl
 ·rw [Is.Da, Di hi, Dw hi, DG (by omega)]
  simp only [Vs, q0, qb, Gt, e2, cond_true]; rfl
theorem YO (xs : LL) (hx : xs.length ≤ 4611686018427387904) (p d g a o n : Int) : NP.c xs p d g a o n = rI (Ds xs (IQ p d g a o n)) := by
 have : Jn.c xs p d g a o n = rI (Ds xs (IQ p d g a o n)) := by
  rw [Jn.eq]
  refine JG (l0 := fun i => Jn.l0 xs p d g a o n _ i) (n := xs.length) (p := fun i => IQ p d g a o n (xs.getD i [])) ?_ fun i hi => ?_
  ·rw [Jn.Da, Dj (Nat.le_refl _)]; rfl
  ·rw [Jn.Da, Di hi, Dw hi, DG (by omega), Re.eq]
   simp only [Um, q0, qb, Gt, cB, En, cond_true]; rfl
 rw [NP.eq, this]; rfl
/-! ### Facts -/
def Mb (k s v now Dv : Int) (x : List U) : Bool := decide (ui x 0 = k) && (decide (ui x 1 = s) && (decide (ui x 2 = v) && Ma x now Dv))
theorem aaw (xs : LL) (hx : xs.length ≤ 4611686018427387904) (k s v now Dv : Int) : Ib.c xs k s v now Dv = rI (Ds xs (Mb k s v now Dv)) := by
 rw [Ib.eq]
 refine JG (l0 := fun i => Ib.l0 xs k s v now Dv i) (n := xs.length) (p := fun i => Mb k s v now Dv (xs.getD i [])) ?_ fun i hi => ?_
 ·rw [Ib.Da, Dj (Nat.le_refl _)]; rfl
 ·rw [Ib.Da, Di hi, Dw hi, DG (by omega)]
  simp only [Ts, q0, qb, Gt, e2, cond_true]; rfl
theorem Yr (xs : LL) (hx : xs.length ≤ 4611686018427387904) (k s v now Dv : Int) : NO.c xs k s v now Dv = rI (Ds xs (Mb k s v now Dv)) := by
 have : Jm.c xs k s v now Dv = rI (Ds xs (Mb k s v now Dv)) := by
  rw [Jm.eq]
  refine JG (l0 := fun i => Jm.l0 xs k s v now Dv _ i) (n := xs.length) (p := fun i => Mb k s v now Dv (xs.getD i [])) ?_ fun i hi => ?_
  ·rw [Jm.Da, Dj (Nat.le_refl _)]; rfl
  ·rw [Jm.Da, Di hi, Dw hi, DG (by omega), Rc.eq]
   simp only [Ss, q0, qb, Gt, cB, En, cond_true]; rfl
 rw [NO.eq, this]; rfl
def Nd (k s now Dv : Int) (b : Int) (x : List U) : Int := bif decide (ui x 0 = k) && (decide (ui x 1 = s) && Ma x now Dv) then max b (ui x 2) else b
def QF (xs : LL) (k s now Dv : Int) : Int := xs.foldl (Nd k s now Dv) (-1)
theorem aaG (a b : Int) : Qd.c a b = rI (max a b) := by
 rw [Qd.eq]
 by_cases h : b > a
 ·rw [decide_eq_true h, Int.max_eq_right (by omega)]; rfl
 ·rw [decide_eq_false h, Int.max_eq_left (by omega)]; rfl
theorem aah (xs : LL) (hx : xs.length ≤ 4611686018427387904) (k s now Dv : Int) : Hn.c xs k s now Dv = rI (QF xs k s now Dv) := by
 rw [Hn.eq]
 refine Lv (l0 := fun b i => Hn.l0 xs k s now Dv b i) (R := rI) (st := Nd k s now Dv) (fun b => ?_) (fun i hi b => ?_) (-1)
 ·rw [Hn.Da, Dj (Nat.le_refl _)]; rfl
 ·rw [Hn.Da, Di hi, Dw hi, DG (by omega)]
  simp only [Ts, aaG, q0, qb, qi, Gt, cond_true]
  unfold Nd Ma
  simp only [gi, ui, Int.toNat_natCast]
  cases decide (((xs.getD i []).getD 0 U0).toInt = k) <;> cases decide (((xs.getD i []).getD 1 U0).toInt = s) <;> first | rfl | skip
  cases KB _ _ _ _ _ _ now Dv <;> rfl
theorem Yc (xs : LL) (hx : xs.length ≤ 4611686018427387904) (k s now Dv : Int) : Gv.c xs k s now Dv = rI (QF xs k s now Dv) := by
 rw [Gv.eq]
 refine Lv (l0 := fun b i => Gv.l0 k s now Dv b xs _ i) (R := rI) (st := Nd k s now Dv) (fun b => ?_) (fun i hi b => ?_) (-1)
 ·rw [Gv.Da, Dj (Nat.le_refl _)]; rfl
 ·rw [Gv.Da, Di hi, Dw hi, DG (by omega)]
  simp only [Ss, ZD, q0, qb, qi, Gt, cond_true]
  unfold Nd Ma
  simp only [gi, ui, Int.toNat_natCast]
  cases decide (((xs.getD i []).getD 0 U0).toInt = k) <;> cases decide (((xs.getD i []).getD 1 U0).toInt = s) <;> first | rfl | skip
  cases KB _ _ _ _ _ _ now Dv <;> rfl
end Go.Proofs.YtbanfmadialnkaaGreat.Eng
/- half -/
