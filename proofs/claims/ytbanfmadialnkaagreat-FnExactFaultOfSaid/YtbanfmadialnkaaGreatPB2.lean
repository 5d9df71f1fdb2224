/- Shares, issuers, pairs of roles, epochs. -/
import Derived.Test.YtbanfmadialnkaaGreatPB1
import Derived.Test.YtbanfmadialnkaaGreatPG
namespace Go.Proofs.YtbanfmadialnkaaGreat.Eng
open Go.RowKit
set_option linter.unusedVariables false
set_option linter.unusedSimpArgs false
set_option linter.unusedSectionVars false
set_option maxRecDepth 100000
variable [Sm]
/-! ### Shares -/
theorem WI (a b : Int) : pZ.c a b = rI (min b a) := by
 rw [pZ.eq]
 by_cases h : b < a
 ·first | rw [decide_eq_true h, Int.min_eq_left (by omega)]; rfl | (simp only [cI]; congr 1; simp [h]; omega)
 ·first | rw [decide_eq_false h, Int.min_eq_right (by omega)]; rfl | (simp only [cI]; congr 1; simp [h]; omega)
def Hn (n : Int) (x : List U) : Int := ab (n + max (min (ui x 1) 101) 0)
def mW (xs : LL) : Int := xs.foldl Hn 0
theorem Mp (xs : LL) (hx : xs.length ≤ 1048576) : js.c xs = rI (mW xs) := by
 rw [js.eq]
 refine ox (l0 := fun n i => js.l0 n xs _ i) (xs := xs) (st := Hn) (R := rI) (fun n => ?_) (fun i hi n => ?_) 0
 ·rw [js.ah, aQ (Nat.le_refl _)]; rfl
 ·rw [js.ah, aR hi, bo hi, bH (by omega), HD, Sv]; rfl
theorem Mq (xs : LL) (hx : xs.length ≤ 1048576) : iw.c xs = rI (mW xs) := by
 rw [iw.eq]
 refine ox (l0 := fun n i => iw.l0 xs n i) (xs := xs) (st := Hn) (R := rI) (fun n => ?_) (fun i hi n => ?_) 0
 ·rw [iw.ah, aQ (Nat.le_refl _)]; rfl
 ·rw [iw.ah, aR hi, bo hi, bH (by omega), HC]
  show ((pZ.c 101 (max 0 (ui (xs.getD i []) 1))).bind _) = _
  rw [WI]
  show iw.l0 xs (ab (n + min (max 0 (ui (xs.getD i []) 1)) 101)) _ = iw.l0 xs (ab (n + max (min (ui (xs.getD i []) 1) 101) 0)) _
  rw [show min (max 0 (ui (xs.getD i []) 1)) 101 = max (min (ui (xs.getD i []) 1) 101) 0 by omega]
def nG (x : List U) : Bool := !decide (ui x 1 < 0)
theorem Nq (xs : LL) (hx : xs.length ≤ 1048576) : ko.c xs = rB (ordered nG cG xs && (decide (ln xs ≤ 6) && decide (mW xs ≤ 100))) := by
 rw [ko.eq]
 refine dr (l0 := fun i => ko.l0 xs i) (n := xs.length) (p := fun i => nG (xs.getD i []) && dY cG xs i) (b := (decide (ln xs ≤ 6) && decide (mW xs ≤ 100))) ?_ fun i hi => ?_
 ·rw [ko.ah, aQ (Nat.le_refl _)]; rw [Mq xs hx]; show (bif decide (ln xs ≤ 6) then rB (decide (mW xs ≤ 100)) else rB false) = _; cases decide (ln xs ≤ 6) <;> rfl
 ·have lY := hi
  rw [ko.ah, aR hi, bo hi, bH (by omega)]
  show (bif decide (ui (xs.getD i []) 1 < 0) then _ else _) = bif nG (xs.getD i []) && dY cG xs i then _ else rB false
  unfold nG
  cases decide (ui (xs.getD i []) 1 < 0)
  rotate_left
  ·rfl
  cases i with
  | zero => rfl
  | succ i =>
   rw [k0 (by omega), bo (show i < xs.length by omega), mf]
   show (bif decide (v0 (xs.getD i []) ≥ v0 (xs.getD (i + 1) [])) then _ else _) = bif !((decide (v0 (xs.getD i []) ≥ v0 (xs.getD (i + 1) [])))) then _ else rB false
   cases decide (v0 (xs.getD i []) ≥ v0 (xs.getD (i + 1) [])) <;> rfl
theorem NC (xs : LL) (hx : xs.length ≤ 1048576) : kq.c xs = rB (ordered nG cG xs && (decide (ln xs ≤ 6) && decide (mW xs ≤ 100))) := by
 rw [kq.eq]
 refine dr (l0 := fun i => kq.l0 xs xs _ i) (n := xs.length) (p := fun i => nG (xs.getD i []) && dY cG xs i) (b := (decide (ln xs ≤ 6) && decide (mW xs ≤ 100))) ?_ fun i hi => ?_
 ·rw [kq.ah, aQ (Nat.le_refl _)]; rw [Mp xs hx]; show (bif decide (ln xs ≤ 6) then rB (decide (mW xs ≤ 100)) else rB false) = _; cases decide (ln xs ≤ 6) <;> rfl
 ·have lY := hi
  rw [kq.ah, aR hi, bo hi, bH (by omega)]
  show (bif decide (ui (xs.getD i []) 1 < 0) then _ else _) = bif nG (xs.getD i []) && dY cG xs i then _ else rB false
  unfold nG
  cases decide (ui (xs.getD i []) 1 < 0)
  rotate_left
  ·rfl
  cases i with
  | zero => rfl
  | succ i =>
   rw [k0 (by omega), bo (show i < xs.length by omega), mf]
   show (bif decide (v0 (xs.getD i []) ≥ v0 (xs.getD (i + 1) [])) then _ else _) = bif !((decide (v0 (xs.getD i []) ≥ v0 (xs.getD (i + 1) [])))) then _ else rB false
   cases decide (v0 (xs.getD i []) ≥ v0 (xs.getD (i + 1) [])) <;> rfl
/-! ### Issuers -/
def tk (i : Int) (s : LL) (k : Int) : Bool := ordered (gJ 1 4) cG s && (within i 0 9 && within k 1 2147483646)
theorem WJ (i : Int) (xs : LL) (hx : xs.length ≤ 1048576) (k : Int) : kC.c i xs k = rB (ordered (gJ 1 4) cG xs && (within i 0 9 && within k 1 2147483646)) := by
 rw [kC.eq]
 refine dr (l0 := fun j => kC.l0 j i xs k) (n := xs.length) (p := fun j => (gJ 1 4) (xs.getD j []) && dY cG xs j) (b := (within i 0 9 && within k 1 2147483646)) ?_ fun j hi => ?_
 ·rw [kC.ah, aQ (Nat.le_refl _)]; rw [cond_false, eD, DC]; show (bif within i 0 9 then rB (within k 1 2147483646) else rB false) = _; cases within i 0 9 <;> rfl
 ·have lY := hi
  rw [kC.ah, aR hi, bo hi, bH (by omega), eD]
  show (bif !within (v0 (xs.getD j [])) 1 4 then _ else _) = bif (gJ 1 4) (xs.getD j []) && dY cG xs j then _ else rB false
  unfold gJ
  cases within (v0 (xs.getD j [])) 1 4
  ·rfl
  cases j with
  | zero => rfl
  | succ j =>
   rw [k0 (by omega), bo (show j < xs.length by omega), mf]
   show (bif decide (v0 (xs.getD j []) ≥ v0 (xs.getD (j + 1) [])) then _ else _) = bif !((decide (v0 (xs.getD j []) ≥ v0 (xs.getD (j + 1) [])))) then _ else rB false
   cases decide (v0 (xs.getD j []) ≥ v0 (xs.getD (j + 1) [])) <;> rfl
theorem WK (i : Int) (xs : LL) (hx : xs.length ≤ 1048576) (k : Int) : yg.c i xs k = rB (tk i xs k) := by
 rw [yg.eq, dZ, K9 xs hx, DD]
 unfold tk
 show (bif within i 0 9 then (bif (ordered (gJ 1 4) cG xs && true) then rB (within k 1 2147483646) else rB false) else rB false) = _
 cases within i 0 9 <;> cases ordered (gJ 1 4) cG xs <;> rfl
def pN (x : List U) : Bool := tk (ui x 0) (ul x 1) (ui x 2)
def GM (xs : LL) : Bool := ordered pN cG xs && decide (ln xs ≤ 4)
theorem SQ (xs : LL) (hx : xs.length ≤ 1048576) (hs : ∀ x ∈ xs, (ul x 1).length ≤ 1048576) : kv.c xs = rB (ordered pN cG xs && decide (ln xs ≤ 4)) := by
 rw [kv.eq]
 refine dr (l0 := fun i => kv.l0 xs i) (n := xs.length) (p := fun i => pN (xs.getD i []) && dY cG xs i) (b := decide (ln xs ≤ 4)) ?_ fun i hi => ?_
 ·rw [kv.ah, aQ (Nat.le_refl _)]; rfl
 ·have lY := hi
  rw [kv.ah, aR hi, bo hi, bH (by omega), WJ _ (gl xs (i : Int) 1) (hs _ (aZ hi (z := [])))]
  show (bif !tk (ui (xs.getD i []) 0) (ul (xs.getD i []) 1) (ui (xs.getD i []) 2) then _ else _) = bif pN (xs.getD i []) && dY cG xs i then _ else rB false
  unfold pN
  cases tk (ui (xs.getD i []) 0) (ul (xs.getD i []) 1) (ui (xs.getD i []) 2)
  ·rfl
  cases i with
  | zero => rfl
  | succ i =>
   rw [k0 (by omega), bo (show i < xs.length by omega), mf]
   show (bif decide (v0 (xs.getD i []) ≥ v0 (xs.getD (i + 1) [])) then _ else _) = bif !((decide (v0 (xs.getD i []) ≥ v0 (xs.getD (i + 1) [])))) then _ else rB false
   cases decide (v0 (xs.getD i []) ≥ v0 (xs.getD (i + 1) [])) <;> rfl
theorem SR (xs : LL) (hx : xs.length ≤ 1048576) (hs : ∀ x ∈ xs, (ul x 1).length ≤ 1048576) : kz.c xs = rB (ordered pN cG xs && decide (ln xs ≤ 4)) := by
 rw [kz.eq]
 refine dr (l0 := fun i => kz.l0 xs xs _ i) (n := xs.length) (p := fun i => pN (xs.getD i []) && dY cG xs i) (b := decide (ln xs ≤ 4)) ?_ fun i hi => ?_
 ·rw [kz.ah, aQ (Nat.le_refl _)]; rfl
 ·have lY := hi
  rw [kz.ah, aR hi, bo hi, bH (by omega), WK _ (gl xs (i : Int) 1) (hs _ (aZ hi (z := [])))]
  show (bif !tk (ui (xs.getD i []) 0) (ul (xs.getD i []) 1) (ui (xs.getD i []) 2) then _ else _) = bif pN (xs.getD i []) && dY cG xs i then _ else rB false
  unfold pN
  cases tk (ui (xs.getD i []) 0) (ul (xs.getD i []) 1) (ui (xs.getD i []) 2)
  ·rfl
  cases i with
  | zero => rfl
  | succ i =>
   rw [k0 (by omega), bo (show i < xs.length by omega), mf]
   show (bif decide (v0 (xs.getD i []) ≥ v0 (xs.getD (i + 1) [])) then _ else _) = bif !((decide (v0 (xs.getD i []) ≥ v0 (xs.getD (i + 1) [])))) then _ else rB false
   cases decide (v0 (xs.getD i []) ≥ v0 (xs.getD (i + 1) [])) <;> rfl
end Go.Proofs.YtbanfmadialnkaaGreat.Eng
/- half -/
