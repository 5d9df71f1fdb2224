/- Lists in order: shared facts, issuers, epochs, revocations, shares. -/
import Derived.Test.YtbanfmadialnkaaGreatPA8
namespace Go.Proofs.YtbanfmadialnkaaGreat.Eng
open Go.RowKit
set_option linter.unusedVariables false
set_option linter.unusedSimpArgs false
set_option linter.unusedSectionVars false
set_option maxRecDepth 100000
variable [Sm]
/-- No neighbours of which the test says that they stand wrong. -/
def dY (bad : List U → List U → Bool) (xs : LL) : Nat → Bool
 | 0 => true
 | i + 1 => !bad (xs.getD i []) (xs.getD (i + 1) [])
theorem k0 {i : Nat} (h : i ≤ 4611686018427387904) : ab (((i + 1 : Nat) : Int) - 1) = (i : Int) := by rw [mh (by omega) (by omega)]; omega
theorem mf {i : Nat} : decide (((i + 1 : Nat) : Int) > 0) = true := decide_eq_true (by omega)
def ordered (WL : List U → Bool) (bad : List U → List U → Bool) (xs : LL) : Bool := (List.range xs.length).all fun i => WL (xs.getD i []) && dY bad xs i
def cG (a b : List U) : Bool := decide (v0 a ≥ v0 b)
def gJ (lo hi : Int) (x : List U) : Bool := within (v0 x) lo hi
theorem K9 (xs : LL) (hx : xs.length ≤ 1048576) (m M : Int) : eT.c xs m M = rB (ordered (gJ m M) cG xs && true) := by
 rw [eT.eq]
 refine dr (l0 := fun i => eT.l0 xs m M xs _ i) (n := xs.length) (p := fun i => (gJ m M) (xs.getD i []) && dY cG xs i) (b := true) ?_ fun i hi => ?_
 ·rw [eT.ah, aQ (Nat.le_refl _)]; rfl
 ·have lY := hi
  rw [eT.ah, aR hi, bo hi, bH (by omega), dZ]
  show (bif !within (v0 (xs.getD i [])) m M then _ else _) = bif (gJ m M) (xs.getD i []) && dY cG xs i then _ else rB false
  unfold gJ
  cases within (v0 (xs.getD i [])) m M
  ·rfl
  cases i with
  | zero => rfl
  | succ i =>
   rw [k0 (by omega), bo (show i < xs.length by omega), mf]
   show (bif decide (v0 (xs.getD i []) ≥ v0 (xs.getD (i + 1) [])) then _ else _) = bif !((decide (v0 (xs.getD i []) ≥ v0 (xs.getD (i + 1) [])))) then _ else rB false
   cases decide (v0 (xs.getD i []) ≥ v0 (xs.getD (i + 1) [])) <;> rfl
def pO (x : List U) : Bool := within (ui x 0) 1 9999 && within (ui x 1) 0 10000
def vK (xs : LL) : Bool := ordered pO cG xs && decide (ln xs ≤ 40)
theorem K3 (xs : LL) (hx : xs.length ≤ 1048576) : jn.c xs = rB (ordered pO cG xs && decide (ln xs ≤ 40)) := by
 rw [jn.eq]
 refine dr (l0 := fun i => jn.l0 xs i) (n := xs.length) (p := fun i => pO (xs.getD i []) && dY cG xs i) (b := decide (ln xs ≤ 40)) ?_ fun i hi => ?_
 ·rw [jn.ah, aQ (Nat.le_refl _)]; rfl
 ·have lY := hi
  rw [jn.ah, aR hi, bo hi, bH (by omega), eD, jj]
  show (bif !within (ui (xs.getD i []) 0) 1 9999 then _ else bif !within (ui (xs.getD i []) 1) 0 10000 then _ else _) = bif pO (xs.getD i []) && dY cG xs i then _ else rB false
  unfold pO
  cases within (ui (xs.getD i []) 0) 1 9999
  ·rfl
  cases within (ui (xs.getD i []) 1) 0 10000
  ·rfl
  cases i with
  | zero => rfl
  | succ i =>
   rw [k0 (by omega), bo (show i < xs.length by omega), mf]
   show (bif decide (v0 (xs.getD i []) ≥ v0 (xs.getD (i + 1) [])) then _ else _) = bif !((decide (v0 (xs.getD i []) ≥ v0 (xs.getD (i + 1) [])))) then _ else rB false
   cases decide (v0 (xs.getD i []) ≥ v0 (xs.getD (i + 1) [])) <;> rfl
theorem K5 (xs : LL) (hx : xs.length ≤ 1048576) : jr.c xs = rB (ordered pO cG xs && decide (ln xs ≤ 40)) := by
 rw [jr.eq]
 refine dr (l0 := fun i => jr.l0 xs xs _ i) (n := xs.length) (p := fun i => pO (xs.getD i []) && dY cG xs i) (b := decide (ln xs ≤ 40)) ?_ fun i hi => ?_
 ·rw [jr.ah, aQ (Nat.le_refl _)]; rfl
 ·have lY := hi
  rw [jr.ah, aR hi, bo hi, bH (by omega), dZ, lf]
  show (bif !within (ui (xs.getD i []) 0) 1 9999 then _ else bif !within (ui (xs.getD i []) 1) 0 10000 then _ else _) = bif pO (xs.getD i []) && dY cG xs i then _ else rB false
  unfold pO
  cases within (ui (xs.getD i []) 0) 1 9999
  ·rfl
  cases within (ui (xs.getD i []) 1) 0 10000
  ·rfl
  cases i with
  | zero => rfl
  | succ i =>
   rw [k0 (by omega), bo (show i < xs.length by omega), mf]
   show (bif decide (v0 (xs.getD i []) ≥ v0 (xs.getD (i + 1) [])) then _ else _) = bif !((decide (v0 (xs.getD i []) ≥ v0 (xs.getD (i + 1) [])))) then _ else rB false
   cases decide (v0 (xs.getD i []) ≥ v0 (xs.getD (i + 1) [])) <;> rfl
def og (a0 a1 a2 a3 b0 b1 b2 b3 : Int) : Bool := bif !decide (a0 = b0) then decide (a0 < b0) else bif !decide (a1 = b1) then decide (a1 < b1) else bif !decide (a2 = b2) then decide (a2 < b2) else decide (a3 < b3)
theorem WM (a0 a1 a2 a3 a4 a5 b0 b1 b2 b3 b4 b5 : Int) : yd.c a0 a1 a2 a3 a4 a5 b0 b1 b2 b3 b4 b5 = rB (og a0 a1 a2 a3 b0 b1 b2 b3) := by simp only [yd.eq, cB]; rfl
def Mr (a0 a1 a2 a3 b0 b1 b2 b3 : Int) : Int := bif decide (a0 < b0) then -1 else bif decide (a0 > b0) then 1 else bif decide (a1 < b1) then -1 else bif decide (a1 > b1) then 1 else bif decide (a2 < b2) then -1 else bif decide (a2 > b2) then 1 else bif decide (a3 < b3) then -1 else bif decide (a3 > b3) then 1 else 0
theorem WN (a0 a1 a2 a3 a4 a5 b0 b1 b2 b3 b4 b5 : Int) : eF.c a0 a1 a2 a3 a4 a5 b0 b1 b2 b3 b4 b5 = rI (Mr a0 a1 a2 a3 b0 b1 b2 b3) := by
 have e0 : eF.l0 0 a0 a1 a2 a3 b0 b1 b2 b3 = bif decide (a0 < b0) then rI (-1) else bif decide (a0 > b0) then rI 1 else eF.l0 1 a0 a1 a2 a3 b0 b1 b2 b3 := by rw [eF.ah]; rfl
 have e1 : eF.l0 1 a0 a1 a2 a3 b0 b1 b2 b3 = bif decide (a1 < b1) then rI (-1) else bif decide (a1 > b1) then rI 1 else eF.l0 2 a0 a1 a2 a3 b0 b1 b2 b3 := by rw [eF.ah]; rfl
 have e2 : eF.l0 2 a0 a1 a2 a3 b0 b1 b2 b3 = bif decide (a2 < b2) then rI (-1) else bif decide (a2 > b2) then rI 1 else eF.l0 3 a0 a1 a2 a3 b0 b1 b2 b3 := by rw [eF.ah]; rfl
 have e3 : eF.l0 3 a0 a1 a2 a3 b0 b1 b2 b3 = bif decide (a3 < b3) then rI (-1) else bif decide (a3 > b3) then rI 1 else eF.l0 4 a0 a1 a2 a3 b0 b1 b2 b3 := by rw [eF.ah]; rfl
 have e4 : eF.l0 4 a0 a1 a2 a3 b0 b1 b2 b3 = rI 0 := by rw [eF.ah]; rfl
 rw [eF.eq, e0, e1, e2, e3, e4]
 simp only [cI]; rfl
theorem WO (a0 a1 a2 a3 b0 b1 b2 b3 : Int) : decide (Mr a0 a1 a2 a3 b0 b1 b2 b3 < 0) = og a0 a1 a2 a3 b0 b1 b2 b3 := by
 have key : ∀ (a b : Int) (X : Int) (Y : Bool), decide (X < 0) = Y → decide ((bif decide (a < b) then -1 else bif decide (a > b) then 1 else X) < 0) = bif !decide (a = b) then decide (a < b) else Y := by
  intro a b X Y h
  rcases Int.lt_trichotomy a b with h1 | h1 | h1
  ·rw [decide_eq_true h1, decide_eq_false (by omega : ¬ a = b)]; rfl
  ·rw [decide_eq_false (by omega : ¬ a < b), decide_eq_false (by omega : ¬ a > b), decide_eq_true h1]; exact h
  ·rw [decide_eq_false (by omega : ¬ a < b), decide_eq_true (by omega : a > b), decide_eq_false (by omega : ¬ a = b)]; rfl
 refine key _ _ _ _ (key _ _ _ _ (key _ _ _ _ ?_))
 rcases Int.lt_trichotomy a3 b3 with h1 | h1 | h1
 ·rw [decide_eq_true h1]; rfl
 ·rw [decide_eq_false (by omega : ¬ a3 < b3), decide_eq_false (by omega : ¬ a3 > b3)]; rfl
 ·rw [decide_eq_false (by omega : ¬ a3 < b3), decide_eq_true (by omega : a3 > b3)]; rfl
theorem WQ (a0 a1 a2 a3 a4 a5 b0 b1 b2 b3 b4 b5 : Int) : yh.c a0 a1 a2 a3 a4 a5 b0 b1 b2 b3 b4 b5 = rB (og a0 a1 a2 a3 b0 b1 b2 b3) := by
 rw [yh.eq, WN]
 exact Su (WO ..)
def pP (x : List U) : Bool := oz (ui x 0) (ui x 1) (ui x 2) (ui x 3) (ui x 4) (ui x 5)
def tl (a b : List U) : Bool := !og (ui a 0) (ui a 1) (ui a 2) (ui a 3) (ui b 0) (ui b 1) (ui b 2) (ui b 3)
def vJ (xs : LL) : Bool := ordered pP tl xs && decide (ln xs ≤ 30)
theorem K2 (xs : LL) (hx : xs.length ≤ 1048576) : jm.c xs = rB (ordered pP tl xs && decide (ln xs ≤ 30)) := by
 rw [jm.eq]
 refine dr (l0 := fun i => jm.l0 xs i) (n := xs.length) (p := fun i => pP (xs.getD i []) && dY tl xs i) (b := decide (ln xs ≤ 30)) ?_ fun i hi => ?_
 ·rw [jm.ah, aQ (Nat.le_refl _)]; rfl
 ·have lY := hi
  rw [jm.ah, aR hi, bo hi, bH (by omega), HM, WM]
  show (bif !oz (ui (xs.getD i []) 0) (ui (xs.getD i []) 1) (ui (xs.getD i []) 2) (ui (xs.getD i []) 3) (ui (xs.getD i []) 4) (ui (xs.getD i []) 5) then _ else _) = bif pP (xs.getD i []) && dY tl xs i then _ else rB false
  unfold pP
  cases oz (ui (xs.getD i []) 0) (ui (xs.getD i []) 1) (ui (xs.getD i []) 2) (ui (xs.getD i []) 3) (ui (xs.getD i []) 4) (ui (xs.getD i []) 5)
  ·rfl
  cases i with
  | zero => rfl
  | succ i =>
   rw [k0 (by omega), bo (show i < xs.length by omega), mf]
   show (bif !og (ui (xs.getD i []) 0) (ui (xs.getD i []) 1) (ui (xs.getD i []) 2) (ui (xs.getD i []) 3) (ui (xs.getD (i + 1) []) 0) (ui (xs.getD (i + 1) []) 1) (ui (xs.getD (i + 1) []) 2) (ui (xs.getD (i + 1) []) 3) then _ else _) = bif !((!og (ui (xs.getD i []) 0) (ui (xs.getD i []) 1) (ui (xs.getD i []) 2) (ui (xs.getD i []) 3) (ui (xs.getD (i + 1) []) 0) (ui (xs.getD (i + 1) []) 1) (ui (xs.getD (i + 1) []) 2) (ui (xs.getD (i + 1) []) 3))) then _ else rB false
   cases !og (ui (xs.getD i []) 0) (ui (xs.getD i []) 1) (ui (xs.getD i []) 2) (ui (xs.getD i []) 3) (ui (xs.getD (i + 1) []) 0) (ui (xs.getD (i + 1) []) 1) (ui (xs.getD (i + 1) []) 2) (ui (xs.getD (i + 1) []) 3) <;> rfl
theorem K4 (xs : LL) (hx : xs.length ≤ 1048576) : jq.c xs = rB (ordered pP tl xs && decide (ln xs ≤ 30)) := by
 rw [jq.eq]
 refine dr (l0 := fun i => jq.l0 xs xs _ i) (n := xs.length) (p := fun i => pP (xs.getD i []) && dY tl xs i) (b := decide (ln xs ≤ 30)) ?_ fun i hi => ?_
 ·rw [jq.ah, aQ (Nat.le_refl _)]; rfl
 ·have lY := hi
  rw [jq.ah, aR hi, bo hi, bH (by omega), HL, WQ]
  show (bif !oz (ui (xs.getD i []) 0) (ui (xs.getD i []) 1) (ui (xs.getD i []) 2) (ui (xs.getD i []) 3) (ui (xs.getD i []) 4) (ui (xs.getD i []) 5) then _ else _) = bif pP (xs.getD i []) && dY tl xs i then _ else rB false
  unfold pP
  cases oz (ui (xs.getD i []) 0) (ui (xs.getD i []) 1) (ui (xs.getD i []) 2) (ui (xs.getD i []) 3) (ui (xs.getD i []) 4) (ui (xs.getD i []) 5)
  ·rfl
  cases i with
  | zero => rfl
  | succ i =>
   rw [k0 (by omega), bo (show i < xs.length by omega), mf]
   show (bif !og (ui (xs.getD i []) 0) (ui (xs.getD i []) 1) (ui (xs.getD i []) 2) (ui (xs.getD i []) 3) (ui (xs.getD (i + 1) []) 0) (ui (xs.getD (i + 1) []) 1) (ui (xs.getD (i + 1) []) 2) (ui (xs.getD (i + 1) []) 3) then _ else _) = bif !((!og (ui (xs.getD i []) 0) (ui (xs.getD i []) 1) (ui (xs.getD i []) 2) (ui (xs.getD i []) 3) (ui (xs.getD (i + 1) []) 0) (ui (xs.getD (i + 1) []) 1) (ui (xs.getD (i + 1) []) 2) (ui (xs.getD (i + 1) []) 3))) then _ else rB false
   cases !og (ui (xs.getD i []) 0) (ui (xs.getD i []) 1) (ui (xs.getD i []) 2) (ui (xs.getD i []) 3) (ui (xs.getD (i + 1) []) 0) (ui (xs.getD (i + 1) []) 1) (ui (xs.getD (i + 1) []) 2) (ui (xs.getD (i + 1) []) 3) <;> rfl
end Go.Proofs.YtbanfmadialnkaaGreat.Eng
/- half -/
