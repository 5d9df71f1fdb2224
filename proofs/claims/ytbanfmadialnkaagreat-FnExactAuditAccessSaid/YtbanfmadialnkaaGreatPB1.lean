/- Lists in order: shared facts, issuers, epochs, revocations, shares. -/
import Derived.Test.YtbanfmadialnkaaGreatPA8
namespace Go.Proofs.YtbanfmadialnkaaGreat.Eng
open Go.RowKit
set_option linter.unusedVariables false
set_option linter.unusedSimpArgs false
set_option linter.unusedSectionVars false
set_option maxRecDepth 100000
variable [Sm]
/-- No neighbours of which the test says that they stand wrong. -/
def Eu (bad : List U → List U → Bool) (xs : LL) : Nat → Bool
 | 0 => true
 | i + 1 => !bad (xs.getD i []) (xs.getD (i + 1) [])
theorem Ic {i : Nat} (h : i ≤ 4611686018427387904) : CX (((i + 1 : Nat) : Int) - 1) = (i : Int) := by rw [Jc (by omega) (by omega)]; omega
theorem Io {i : Nat} : decide (((i + 1 : Nat) : Int) > 0) = true := decide_eq_true (by omega)
def ordered (WK : List U → Bool) (bad : List U → List U → Bool) (xs : LL) : Bool := (List.range xs.length).all fun i => WK (xs.getD i []) && Eu bad xs i
def DT (a b : List U) : Bool := decide (v0 a ≥ v0 b)
def FG (lo hi : Int) (x : List U) : Bool := within (v0 x) lo hi
theorem Tr (xs : LL) (hx : xs.length ≤ 1048576) (m M : Int) : ER.c xs m M = rB (ordered (FG m M) DT xs && true) := by
 rw [ER.eq]
 refine Ee (l0 := fun i => ER.l0 xs m M xs _ i) (n := xs.length) (p := fun i => (FG m M) (xs.getD i []) && Eu DT xs i) (b := true) ?_ fun i hi => ?_
 ·rw [ER.CZ, Dq (Nat.le_refl _)]; rfl
 ·have zG := hi
  rw [ER.CZ, Dr hi, DB hi, DG (by omega), Ez]
  show (bif !within (v0 (xs.getD i [])) m M then _ else _) = bif (FG m M) (xs.getD i []) && Eu DT xs i then _ else rB false
  unfold FG
  cases within (v0 (xs.getD i [])) m M
  ·rfl
  cases i with
  | zero => rfl
  | succ i =>
   rw [Ic (by omega), DB (show i < xs.length by omega), Io]
   show (bif decide (v0 (xs.getD i []) ≥ v0 (xs.getD (i + 1) [])) then _ else _) = bif !((decide (v0 (xs.getD i []) ≥ v0 (xs.getD (i + 1) [])))) then _ else rB false
   cases decide (v0 (xs.getD i []) ≥ v0 (xs.getD (i + 1) [])) <;> rfl
def JL (x : List U) : Bool := within (ui x 0) 1 9999 && within (ui x 1) 0 10000
def KY (xs : LL) : Bool := ordered JL DT xs && decide (ln xs ≤ 40)
theorem UC (xs : LL) (hx : xs.length ≤ 1048576) : Hi.c xs = rB (ordered JL DT xs && decide (ln xs ≤ 40)) := by
 rw [Hi.eq]
 refine Ee (l0 := fun i => Hi.l0 xs i) (n := xs.length) (p := fun i => JL (xs.getD i []) && Eu DT xs i) (b := decide (ln xs ≤ 40)) ?_ fun i hi => ?_
 ·rw [Hi.CZ, Dq (Nat.le_refl _)]; rfl
 ·have zG := hi
  rw [Hi.CZ, Dr hi, DB hi, DG (by omega), EI, Hh]
  show (bif !within (ui (xs.getD i []) 0) 1 9999 then _ else bif !within (ui (xs.getD i []) 1) 0 10000 then _ else _) = bif JL (xs.getD i []) && Eu DT xs i then _ else rB false
  unfold JL
  cases within (ui (xs.getD i []) 0) 1 9999
  ·rfl
  cases within (ui (xs.getD i []) 1) 0 10000
  ·rfl
  cases i with
  | zero => rfl
  | succ i =>
   rw [Ic (by omega), DB (show i < xs.length by omega), Io]
   show (bif decide (v0 (xs.getD i []) ≥ v0 (xs.getD (i + 1) [])) then _ else _) = bif !((decide (v0 (xs.getD i []) ≥ v0 (xs.getD (i + 1) [])))) then _ else rB false
   cases decide (v0 (xs.getD i []) ≥ v0 (xs.getD (i + 1) [])) <;> rfl
theorem Tq (xs : LL) (hx : xs.length ≤ 1048576) : Hd.c xs = rB (ordered JL DT xs && decide (ln xs ≤ 40)) := by
 rw [Hd.eq]
 refine Ee (l0 := fun i => Hd.l0 xs xs _ i) (n := xs.length) (p := fun i => JL (xs.getD i []) && Eu DT xs i) (b := decide (ln xs ≤ 40)) ?_ fun i hi => ?_
 ·rw [Hd.CZ, Dq (Nat.le_refl _)]; rfl
 ·have zG := hi
  rw [Hd.CZ, Dr hi, DB hi, DG (by omega), Ez, Ie]
  show (bif !within (ui (xs.getD i []) 0) 1 9999 then _ else bif !within (ui (xs.getD i []) 1) 0 10000 then _ else _) = bif JL (xs.getD i []) && Eu DT xs i then _ else rB false
  unfold JL
  cases within (ui (xs.getD i []) 0) 1 9999
  ·rfl
  cases within (ui (xs.getD i []) 1) 0 10000
  ·rfl
  cases i with
  | zero => rfl
  | succ i =>
   rw [Ic (by omega), DB (show i < xs.length by omega), Io]
   show (bif decide (v0 (xs.getD i []) ≥ v0 (xs.getD (i + 1) [])) then _ else _) = bif !((decide (v0 (xs.getD i []) ≥ v0 (xs.getD (i + 1) [])))) then _ else rB false
   cases decide (v0 (xs.getD i []) ≥ v0 (xs.getD (i + 1) [])) <;> rfl
def Js (a0 a1 a2 a3 b0 b1 b2 b3 : Int) : Bool := bif !decide (a0 = b0) then decide (a0 < b0) else bif !decide (a1 = b1) then decide (a1 < b1) else bif !decide (a2 = b2) then decide (a2 < b2) else decide (a3 < b3)
theorem aab (a0 a1 a2 a3 a4 a5 b0 b1 b2 b3 b4 b5 : Int) : OZ.c a0 a1 a2 a3 a4 a5 b0 b1 b2 b3 b4 b5 = rB (Js a0 a1 a2 a3 b0 b1 b2 b3) := by simp only [OZ.eq, cB]; rfl
def Tc (a0 a1 a2 a3 b0 b1 b2 b3 : Int) : Int := bif decide (a0 < b0) then -1 else bif decide (a0 > b0) then 1 else bif decide (a1 < b1) then -1 else bif decide (a1 > b1) then 1 else bif decide (a2 < b2) then -1 else bif decide (a2 > b2) then 1 else bif decide (a3 < b3) then -1 else bif decide (a3 > b3) then 1 else 0
theorem XD (a0 a1 a2 a3 a4 a5 b0 b1 b2 b3 b4 b5 : Int) : EH.c a0 a1 a2 a3 a4 a5 b0 b1 b2 b3 b4 b5 = rI (Tc a0 a1 a2 a3 b0 b1 b2 b3) := by
 have e0 : EH.l0 0 a0 a1 a2 a3 b0 b1 b2 b3 = bif decide (a0 < b0) then rI (-1) else bif decide (a0 > b0) then rI 1 else EH.l0 1 a0 a1 a2 a3 b0 b1 b2 b3 := by rw [EH.CZ]; rfl
 have e1 : EH.l0 1 a0 a1 a2 a3 b0 b1 b2 b3 = bif decide (a1 < b1) then rI (-1) else bif decide (a1 > b1) then rI 1 else EH.l0 2 a0 a1 a2 a3 b0 b1 b2 b3 := by rw [EH.CZ]; rfl
 have e2 : EH.l0 2 a0 a1 a2 a3 b0 b1 b2 b3 = bif decide (a2 < b2) then rI (-1) else bif decide (a2 > b2) then rI 1 else EH.l0 3 a0 a1 a2 a3 b0 b1 b2 b3 := by rw [EH.CZ]; rfl
 have e3 : EH.l0 3 a0 a1 a2 a3 b0 b1 b2 b3 = bif decide (a3 < b3) then rI (-1) else bif decide (a3 > b3) then rI 1 else EH.l0 4 a0 a1 a2 a3 b0 b1 b2 b3 := by rw [EH.CZ]; rfl
 have e4 : EH.l0 4 a0 a1 a2 a3 b0 b1 b2 b3 = rI 0 := by rw [EH.CZ]; rfl
 rw [EH.eq, e0, e1, e2, e3, e4]
 simp only [cI]; rfl
theorem VI (a0 a1 a2 a3 b0 b1 b2 b3 : Int) : decide (Tc a0 a1 a2 a3 b0 b1 b2 b3 < 0) = Js a0 a1 a2 a3 b0 b1 b2 b3 := by
 have key : ∀ (a b : Int) (X : Int) (Y : Bool), decide (X < 0) = Y → decide ((bif decide (a < b) then -1 else bif decide (a > b) then 1 else X) < 0) = bif !decide (a = b) then decide (a < b) else Y := by
  intro a b X Y h
  rcases Int.lt_trichotomy a b with h1 | h1 | h1
  ·rw [decide_eq_true h1, decide_eq_false (by omega : ¬ a = b)]; rfl
  ·rw [decide_eq_false (by omega : ¬ a < b), decide_eq_false (by omega : ¬ a > b), decide_eq_true h1]; exact h
  ·rw [decide_eq_false (by omega : ¬ a < b), decide_eq_true (by omega : a > b), decide_eq_false (by omega : ¬ a = b)]; rfl
 refine key _ _ _ _ (key _ _ _ _ (key _ _ _ _ ?_))
 rcases Int.lt_trichotomy a3 b3 with h1 | h1 | h1
 ·rw [decide_eq_true h1]; rfl
 ·rw [decide_eq_false (by omega : ¬ a3 < b3), decide_eq_false (by omega : ¬ a3 > b3)]; rfl
 ·rw [decide_eq_false (by omega : ¬ a3 < b3), decide_eq_true (by omega : a3 > b3)]; rfl
theorem Xx (a0 a1 a2 a3 a4 a5 b0 b1 b2 b3 b4 b5 : Int) : MH.c a0 a1 a2 a3 a4 a5 b0 b1 b2 b3 b4 b5 = rB (Js a0 a1 a2 a3 b0 b1 b2 b3) := by
 rw [MH.eq, XD]
 exact Zz (VI ..)
def JJ (x : List U) : Bool := JE (ui x 0) (ui x 1) (ui x 2) (ui x 3) (ui x 4) (ui x 5)
def KH (a b : List U) : Bool := !Js (ui a 0) (ui a 1) (ui a 2) (ui a 3) (ui b 0) (ui b 1) (ui b 2) (ui b 3)
def Lw (xs : LL) : Bool := ordered JJ KH xs && decide (ln xs ≤ 30)
theorem UQ (xs : LL) (hx : xs.length ≤ 1048576) : Hk.c xs = rB (ordered JJ KH xs && decide (ln xs ≤ 30)) := by
 rw [Hk.eq]
 refine Ee (l0 := fun i => Hk.l0 xs i) (n := xs.length) (p := fun i => JJ (xs.getD i []) && Eu KH xs i) (b := decide (ln xs ≤ 30)) ?_ fun i hi => ?_
 ·rw [Hk.CZ, Dq (Nat.le_refl _)]; rfl
 ·have zG := hi
  rw [Hk.CZ, Dr hi, DB hi, DG (by omega), UG, aab]
  show (bif !JE (ui (xs.getD i []) 0) (ui (xs.getD i []) 1) (ui (xs.getD i []) 2) (ui (xs.getD i []) 3) (ui (xs.getD i []) 4) (ui (xs.getD i []) 5) then _ else _) = bif JJ (xs.getD i []) && Eu KH xs i then _ else rB false
  unfold JJ
  cases JE (ui (xs.getD i []) 0) (ui (xs.getD i []) 1) (ui (xs.getD i []) 2) (ui (xs.getD i []) 3) (ui (xs.getD i []) 4) (ui (xs.getD i []) 5)
  ·rfl
  cases i with
  | zero => rfl
  | succ i =>
   rw [Ic (by omega), DB (show i < xs.length by omega), Io]
   show (bif !Js (ui (xs.getD i []) 0) (ui (xs.getD i []) 1) (ui (xs.getD i []) 2) (ui (xs.getD i []) 3) (ui (xs.getD (i + 1) []) 0) (ui (xs.getD (i + 1) []) 1) (ui (xs.getD (i + 1) []) 2) (ui (xs.getD (i + 1) []) 3) then _ else _) = bif !((!Js (ui (xs.getD i []) 0) (ui (xs.getD i []) 1) (ui (xs.getD i []) 2) (ui (xs.getD i []) 3) (ui (xs.getD (i + 1) []) 0) (ui (xs.getD (i + 1) []) 1) (ui (xs.getD (i + 1) []) 2) (ui (xs.getD (i + 1) []) 3))) then _ else rB false
   cases !Js (ui (xs.getD i []) 0) (ui (xs.getD i []) 1) (ui (xs.getD i []) 2) (ui (xs.getD i []) 3) (ui (xs.getD (i + 1) []) 0) (ui (xs.getD (i + 1) []) 1) (ui (xs.getD (i + 1) []) 2) (ui (xs.getD (i + 1) []) 3) <;> rfl
theorem TE (xs : LL) (hx : xs.length ≤ 1048576) : He.c xs = rB (ordered JJ KH xs && decide (ln xs ≤ 30)) := by
 rw [He.eq]
 refine Ee (l0 := fun i => He.l0 xs xs _ i) (n := xs.length) (p := fun i => JJ (xs.getD i []) && Eu KH xs i) (b := decide (ln xs ≤ 30)) ?_ fun i hi => ?_
 ·rw [He.CZ, Dq (Nat.le_refl _)]; rfl
 ·have zG := hi
  rw [He.CZ, Dr hi, DB hi, DG (by omega), Tw, Xx]
  show (bif !JE (ui (xs.getD i []) 0) (ui (xs.getD i []) 1) (ui (xs.getD i []) 2) (ui (xs.getD i []) 3) (ui (xs.getD i []) 4) (ui (xs.getD i []) 5) then _ else _) = bif JJ (xs.getD i []) && Eu KH xs i then _ else rB false
  unfold JJ
  cases JE (ui (xs.getD i []) 0) (ui (xs.getD i []) 1) (ui (xs.getD i []) 2) (ui (xs.getD i []) 3) (ui (xs.getD i []) 4) (ui (xs.getD i []) 5)
  ·rfl
  cases i with
  | zero => rfl
  | succ i =>
   rw [Ic (by omega), DB (show i < xs.length by omega), Io]
   show (bif !Js (ui (xs.getD i []) 0) (ui (xs.getD i []) 1) (ui (xs.getD i []) 2) (ui (xs.getD i []) 3) (ui (xs.getD (i + 1) []) 0) (ui (xs.getD (i + 1) []) 1) (ui (xs.getD (i + 1) []) 2) (ui (xs.getD (i + 1) []) 3) then _ else _) = bif !((!Js (ui (xs.getD i []) 0) (ui (xs.getD i []) 1) (ui (xs.getD i []) 2) (ui (xs.getD i []) 3) (ui (xs.getD (i + 1) []) 0) (ui (xs.getD (i + 1) []) 1) (ui (xs.getD (i + 1) []) 2) (ui (xs.getD (i + 1) []) 3))) then _ else rB false
   cases !Js (ui (xs.getD i []) 0) (ui (xs.getD i []) 1) (ui (xs.getD i []) 2) (ui (xs.getD i []) 3) (ui (xs.getD (i + 1) []) 0) (ui (xs.getD (i + 1) []) 1) (ui (xs.getD (i + 1) []) 2) (ui (xs.getD (i + 1) []) 3) <;> rfl
end Go.Proofs.YtbanfmadialnkaaGreat.Eng
/- half -/
