/- Shares, issuers, pairs of roles, epochs. -/
import Derived.Test.YtbanfmadialnkaaGreatPB1
import Derived.Test.YtbanfmadialnkaaGreatPG
namespace Go.Proofs.YtbanfmadialnkaaGreat.Eng
open Go.RowKit
set_option linter.unusedVariables false
set_option linter.unusedSimpArgs false
set_option linter.unusedSectionVars false
set_option maxRecDepth 100000
variable [Sm]
/-! ### Shares -/
theorem aaE (a b : Int) : Ki.c a b = rI (min b a) := by
 rw [Ki.eq]
 by_cases h : b < a
 ·first | rw [decide_eq_true h, Int.min_eq_left (by omega)]; rfl | (simp only [cI]; congr 1; simp [h]; omega)
 ·first | rw [decide_eq_false h, Int.min_eq_right (by omega)]; rfl | (simp only [cI]; congr 1; simp [h]; omega)
def SI (n : Int) (x : List U) : Int := CX (n + max (min (ui x 1) 101) 0)
def Jm (xs : LL) : Int := xs.foldl SI 0
theorem TF (xs : LL) (hx : xs.length ≤ 1048576) : Hg.c xs = rI (Jm xs) := by
 rw [Hg.eq]
 refine JC (l0 := fun n i => Hg.l0 n xs _ i) (xs := xs) (st := SI) (R := rI) (fun n => ?_) (fun i hi n => ?_) 0
 ·rw [Hg.CZ, Dq (Nat.le_refl _)]; rfl
 ·rw [Hg.CZ, Dr hi, DB hi, DG (by omega), TO, YY]; rfl
theorem UR (xs : LL) (hx : xs.length ≤ 1048576) : GN.c xs = rI (Jm xs) := by
 rw [GN.eq]
 refine JC (l0 := fun n i => GN.l0 xs n i) (xs := xs) (st := SI) (R := rI) (fun n => ?_) (fun i hi n => ?_) 0
 ·rw [GN.CZ, Dq (Nat.le_refl _)]; rfl
 ·rw [GN.CZ, Dr hi, DB hi, DG (by omega), UJ]
  show ((Ki.c 101 (max 0 (ui (xs.getD i []) 1))).bind _) = _
  rw [aaE]
  show GN.l0 xs (CX (n + min (max 0 (ui (xs.getD i []) 1)) 101)) _ = GN.l0 xs (CX (n + max (min (ui (xs.getD i []) 1) 101) 0)) _
  rw [show min (max 0 (ui (xs.getD i []) 1)) 101 = max (min (ui (xs.getD i []) 1) 101) 0 by omega]
def Ju (x : List U) : Bool := !decide (ui x 1 < 0)
theorem aaR (xs : LL) (hx : xs.length ≤ 1048576) : HU.c xs = rB (ordered Ju DT xs && (decide (ln xs ≤ 6) && decide (Jm xs ≤ 100))) := by
 rw [HU.eq]
 refine Ee (l0 := fun i => HU.l0 xs i) (n := xs.length) (p := fun i => Ju (xs.getD i []) && Eu DT xs i) (b := (decide (ln xs ≤ 6) && decide (Jm xs ≤ 100))) ?_ fun i hi => ?_
 ·rw [HU.CZ, Dq (Nat.le_refl _)]; rw [UR xs hx]; show (bif decide (ln xs ≤ 6) then rB (decide (Jm xs ≤ 100)) else rB false) = _; cases decide (ln xs ≤ 6) <;> rfl
 ·have zG := hi
  rw [HU.CZ, Dr hi, DB hi, DG (by omega)]
  show (bif decide (ui (xs.getD i []) 1 < 0) then _ else _) = bif Ju (xs.getD i []) && Eu DT xs i then _ else rB false
  unfold Ju
  cases decide (ui (xs.getD i []) 1 < 0)
  rotate_left
  ·rfl
  cases i with
  | zero => rfl
  | succ i =>
   rw [Ic (by omega), DB (show i < xs.length by omega), Io]
   show (bif decide (v0 (xs.getD i []) ≥ v0 (xs.getD (i + 1) [])) then _ else _) = bif !((decide (v0 (xs.getD i []) ≥ v0 (xs.getD (i + 1) [])))) then _ else rB false
   cases decide (v0 (xs.getD i []) ≥ v0 (xs.getD (i + 1) [])) <;> rfl
theorem Yk (xs : LL) (hx : xs.length ≤ 1048576) : Hv.c xs = rB (ordered Ju DT xs && (decide (ln xs ≤ 6) && decide (Jm xs ≤ 100))) := by
 rw [Hv.eq]
 refine Ee (l0 := fun i => Hv.l0 xs xs _ i) (n := xs.length) (p := fun i => Ju (xs.getD i []) && Eu DT xs i) (b := (decide (ln xs ≤ 6) && decide (Jm xs ≤ 100))) ?_ fun i hi => ?_
 ·rw [Hv.CZ, Dq (Nat.le_refl _)]; rw [TF xs hx]; show (bif decide (ln xs ≤ 6) then rB (decide (Jm xs ≤ 100)) else rB false) = _; cases decide (ln xs ≤ 6) <;> rfl
 ·have zG := hi
  rw [Hv.CZ, Dr hi, DB hi, DG (by omega)]
  show (bif decide (ui (xs.getD i []) 1 < 0) then _ else _) = bif Ju (xs.getD i []) && Eu DT xs i then _ else rB false
  unfold Ju
  cases decide (ui (xs.getD i []) 1 < 0)
  rotate_left
  ·rfl
  cases i with
  | zero => rfl
  | succ i =>
   rw [Ic (by omega), DB (show i < xs.length by omega), Io]
   show (bif decide (v0 (xs.getD i []) ≥ v0 (xs.getD (i + 1) [])) then _ else _) = bif !((decide (v0 (xs.getD i []) ≥ v0 (xs.getD (i + 1) [])))) then _ else rB false
   cases decide (v0 (xs.getD i []) ≥ v0 (xs.getD (i + 1) [])) <;> rfl
/-! ### Issuers -/
def KC (i : Int) (s : LL) (k : Int) : Bool := ordered (FG 1 4) DT s && (within i 0 9 && within k 1 2147483646)
theorem aaz (i : Int) (xs : LL) (hx : xs.length ≤ 1048576) (k : Int) : HW.c i xs k = rB (ordered (FG 1 4) DT xs && (within i 0 9 && within k 1 2147483646)) := by
 rw [HW.eq]
 refine Ee (l0 := fun j => HW.l0 j i xs k) (n := xs.length) (p := fun j => (FG 1 4) (xs.getD j []) && Eu DT xs j) (b := (within i 0 9 && within k 1 2147483646)) ?_ fun j hi => ?_
 ·rw [HW.CZ, Dq (Nat.le_refl _)]; rw [cond_false, EI, SG]; show (bif within i 0 9 then rB (within k 1 2147483646) else rB false) = _; cases within i 0 9 <;> rfl
 ·have zG := hi
  rw [HW.CZ, Dr hi, DB hi, DG (by omega), EI]
  show (bif !within (v0 (xs.getD j [])) 1 4 then _ else _) = bif (FG 1 4) (xs.getD j []) && Eu DT xs j then _ else rB false
  unfold FG
  cases within (v0 (xs.getD j [])) 1 4
  ·rfl
  cases j with
  | zero => rfl
  | succ j =>
   rw [Ic (by omega), DB (show j < xs.length by omega), Io]
   show (bif decide (v0 (xs.getD j []) ≥ v0 (xs.getD (j + 1) [])) then _ else _) = bif !((decide (v0 (xs.getD j []) ≥ v0 (xs.getD (j + 1) [])))) then _ else rB false
   cases decide (v0 (xs.getD j []) ≥ v0 (xs.getD (j + 1) [])) <;> rfl
theorem XU (i : Int) (xs : LL) (hx : xs.length ≤ 1048576) (k : Int) : MM.c i xs k = rB (KC i xs k) := by
 rw [MM.eq, Ez, Tr xs hx, RR]
 unfold KC
 show (bif within i 0 9 then (bif (ordered (FG 1 4) DT xs && true) then rB (within k 1 2147483646) else rB false) else rB false) = _
 cases within i 0 9 <;> cases ordered (FG 1 4) DT xs <;> rfl
def JK (x : List U) : Bool := KC (ui x 0) (ul x 1) (ui x 2)
def Re (xs : LL) : Bool := ordered JK DT xs && decide (ln xs ≤ 4)
theorem ZY (xs : LL) (hx : xs.length ≤ 1048576) (hs : ∀ x ∈ xs, (ul x 1).length ≤ 1048576) : HT.c xs = rB (ordered JK DT xs && decide (ln xs ≤ 4)) := by
 rw [HT.eq]
 refine Ee (l0 := fun i => HT.l0 xs i) (n := xs.length) (p := fun i => JK (xs.getD i []) && Eu DT xs i) (b := decide (ln xs ≤ 4)) ?_ fun i hi => ?_
 ·rw [HT.CZ, Dq (Nat.le_refl _)]; rfl
 ·have zG := hi
  rw [HT.CZ, Dr hi, DB hi, DG (by omega), aaz _ (gl xs (i : Int) 1) (hs _ (Du hi (z := [])))]
  show (bif !KC (ui (xs.getD i []) 0) (ul (xs.getD i []) 1) (ui (xs.getD i []) 2) then _ else _) = bif JK (xs.getD i []) && Eu DT xs i then _ else rB false
  unfold JK
  cases KC (ui (xs.getD i []) 0) (ul (xs.getD i []) 1) (ui (xs.getD i []) 2)
  ·rfl
  cases i with
  | zero => rfl
  | succ i =>
   rw [Ic (by omega), DB (show i < xs.length by omega), Io]
   show (bif decide (v0 (xs.getD i []) ≥ v0 (xs.getD (i + 1) [])) then _ else _) = bif !((decide (v0 (xs.getD i []) ≥ v0 (xs.getD (i + 1) [])))) then _ else rB false
   cases decide (v0 (xs.getD i []) ≥ v0 (xs.getD (i + 1) [])) <;> rfl
theorem Xu (xs : LL) (hx : xs.length ≤ 1048576) (hs : ∀ x ∈ xs, (ul x 1).length ≤ 1048576) : Hu.c xs = rB (ordered JK DT xs && decide (ln xs ≤ 4)) := by
 rw [Hu.eq]
 refine Ee (l0 := fun i => Hu.l0 xs xs _ i) (n := xs.length) (p := fun i => JK (xs.getD i []) && Eu DT xs i) (b := decide (ln xs ≤ 4)) ?_ fun i hi => ?_
 ·rw [Hu.CZ, Dq (Nat.le_refl _)]; rfl
 ·have zG := hi
  rw [Hu.CZ, Dr hi, DB hi, DG (by omega), XU _ (gl xs (i : Int) 1) (hs _ (Du hi (z := [])))]
  show (bif !KC (ui (xs.getD i []) 0) (ul (xs.getD i []) 1) (ui (xs.getD i []) 2) then _ else _) = bif JK (xs.getD i []) && Eu DT xs i then _ else rB false
  unfold JK
  cases KC (ui (xs.getD i []) 0) (ul (xs.getD i []) 1) (ui (xs.getD i []) 2)
  ·rfl
  cases i with
  | zero => rfl
  | succ i =>
   rw [Ic (by omega), DB (show i < xs.length by omega), Io]
   show (bif decide (v0 (xs.getD i []) ≥ v0 (xs.getD (i + 1) [])) then _ else _) = bif !((decide (v0 (xs.getD i []) ≥ v0 (xs.getD (i + 1) [])))) then _ else rB false
   cases decide (v0 (xs.getD i []) ≥ v0 (xs.getD (i + 1) [])) <;> rfl
end Go.Proofs.YtbanfmadialnkaaGreat.Eng
/- half -/
