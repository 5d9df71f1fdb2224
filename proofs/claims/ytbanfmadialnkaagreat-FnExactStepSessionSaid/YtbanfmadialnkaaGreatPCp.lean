/- Copies of centers and of worlds are what is copied. -/
import Derived.Test.YtbanfmadialnkaaGreatPA10
import Derived.Test.YtbanfmadialnkaaGreatPEm
namespace Go.Proofs.YtbanfmadialnkaaGreat.Eng
open Go.RowKit
set_option linter.unusedVariables false
set_option linter.unusedSimpArgs false
set_option linter.unusedSectionVars false
set_option maxRecDepth 100000
variable [Sm]
theorem Lg {xs : LL} {f : List U → List U} (h : ∀ x ∈ xs, f x = x) : xs.map f = xs := (List.map_congr_left h).trans (List.map_id xs)
theorem aay (xs : LL) (h : WR CZ.ct 195 xs) (hc : Db xs ≤ 1048576) : JD.c xs = rL xs := by
 have hl := Dk xs
 rw [JD.eq]
 refine (IH (l0 := fun i acc => JD.l0 xs i acc) (xs := xs) (f := fun x => [U.int (ui x 0), U.int (ui x 1), U.int (ui x 2), U.lst (ul x 3), U.int (ui x 4), U.int (ui x 5), U.bool (ub x 6)]) (R := fun acc => rL acc) (fun acc ha => ?_) fun i hi acc ha => ?_).trans (congrArg rL (Lg fun x hx => by obtain ⟨c0, c1, c2, c3, c4, c5, c6, rfl, _⟩ := PU (h.2 x hx); rfl))
 ·rw [JD.Da, Dj (Nat.le_refl _)]; rfl
 ·have h1 := sub_lt hi 3
  have h2 := Dk (ul (xs.getD i []) 3)
  rw [JD.Da, Di hi, DE hi, DJ (by omega)]
  show Cu (room (0 + (ul (xs.getD i []) 3).length) 8) (Cu (room (acc.length + 1) 72) _) = _
  rw [Dq (by omega) (by omega), Dq (by omega) (by omega)]; rfl
theorem YD (xs : LL) (h : WR CZ.ct 195 xs) (hc : Db xs ≤ 1048576) : Jg.c xs = rL xs := by
 have hl := Dk xs
 rw [Jg.eq]
 refine (IH (l0 := fun i acc => Jg.l0 xs _ i acc) (xs := xs) (f := fun x => [U.int (ui x 0), U.int (ui x 1), U.int (ui x 2), U.lst (ul x 3), U.int (ui x 4), U.int (ui x 5), U.bool (ub x 6)]) (R := fun acc => rL acc) (fun acc ha => ?_) fun i hi acc ha => ?_).trans (congrArg rL (Lg fun x hx => by obtain ⟨c0, c1, c2, c3, c4, c5, c6, rfl, _⟩ := PU (h.2 x hx); rfl))
 ·rw [Jg.Da, Dj (Nat.le_refl _)]; rfl
 ·have h1 := sub_lt hi 3
  have h2 := Dk (ul (xs.getD i []) 3)
  rw [Jg.Da, Di hi, DE hi, DJ (by omega)]
  show Cu (room (0 + (ul (xs.getD i []) 3).length) 8) (Cu (room (acc.length + 1) 72) _) = _
  rw [Dq (by omega) (by omega), Dq (by omega) (by omega)]; rfl
theorem aaz (xs : LL) (h : WR CZ.ct 276 xs) (hc : Db xs ≤ 1048576) : JG.c xs = rL xs := by
 have hl := Dk xs
 rw [JG.eq]
 refine (IH (l0 := fun i acc => JG.l0 xs i acc) (xs := xs) (f := fun x => [U.int (ui x 0), U.lst (ul x 1), U.int (ui x 2)]) (R := fun acc => rL acc) (fun acc ha => ?_) fun i hi acc ha => ?_).trans (congrArg rL (Lg fun x hx => by obtain ⟨c0, c1, c2, rfl, _⟩ := PW (h.2 x hx); rfl))
 ·rw [JG.Da, Dj (Nat.le_refl _)]; rfl
 ·have h1 := sub_lt hi 1
  have h2 := Dk (ul (xs.getD i []) 1)
  rw [JG.Da, Di hi, DE hi, DJ (by omega)]
  show Cu (room (0 + (ul (xs.getD i []) 1).length) 8) (Cu (room (acc.length + 1) 40) _) = _
  rw [Dq (by omega) (by omega), Dq (by omega) (by omega)]; rfl
theorem aax (xs : LL) (h : WR CZ.ct 130 xs) (hc : Db xs ≤ 1048576) : JC.c xs = rL xs := by
 have hl := Dk xs
 rw [JC.eq]
 refine (IH (l0 := fun i acc => JC.l0 xs i acc) (xs := xs) (f := fun x => [U.int (ui x 0), U.int (ui x 1), U.lst (ul x 2), U.int (ui x 3), U.lst (EM (ul x 4))]) (R := fun acc => rL acc) (fun acc ha => ?_) fun i hi acc ha => ?_).trans (congrArg rL (Lg fun x hx => by obtain ⟨c0, c1, c2, c3, c4, rfl, _, h4⟩ := PQ (h.2 x hx); show [U.int c0, U.int c1, U.lst c2, U.int c3, U.lst (EM c4)] = _; rw [QX h4]))
 ·rw [JC.Da, Dj (Nat.le_refl _)]; rfl
 ·have h1 := sub_lt hi 2
  have h2 := Dk (ul (xs.getD i []) 2)
  have h4 := sub_lt hi 4
  rw [JC.Da, Di hi, DE hi, DJ (by omega), Vr _ _ (gl xs (i : Int) 2) _ (gl xs (i : Int) 4) (by show (ul (xs.getD i []) 2).length ≤ _; omega) (by show Db (ul (xs.getD i []) 4) ≤ _; omega)]
  show Cu (room (acc.length + 1) 72) _ = _
  rw [Dq (by omega) (by omega)]; rfl
theorem YC (xs : LL) (h : WR CZ.ct 130 xs) (hc : Db xs ≤ 1048576) : Jf.c xs = rL xs := by
 have hl := Dk xs
 rw [Jf.eq]
 refine (IH (l0 := fun i acc => Jf.l0 xs _ i acc) (xs := xs) (f := fun x => [U.int (ui x 0), U.int (ui x 1), U.lst (ul x 2), U.int (ui x 3), U.lst (EM (ul x 4))]) (R := fun acc => rL acc) (fun acc ha => ?_) fun i hi acc ha => ?_).trans (congrArg rL (Lg fun x hx => by obtain ⟨c0, c1, c2, c3, c4, rfl, _, h4⟩ := PQ (h.2 x hx); show [U.int c0, U.int c1, U.lst c2, U.int c3, U.lst (EM c4)] = _; rw [QX h4]))
 ·rw [Jf.Da, Dj (Nat.le_refl _)]; rfl
 ·have h1 := sub_lt hi 2
  have h2 := Dk (ul (xs.getD i []) 2)
  have h4 := sub_lt hi 4
  rw [Jf.Da, Di hi, DE hi, DJ (by omega), Uq _ _ (gl xs (i : Int) 2) _ (gl xs (i : Int) 4) (by show (ul (xs.getD i []) 2).length ≤ _; omega) (by show Db (ul (xs.getD i []) 4) ≤ _; omega)]
  show Cu (room (acc.length + 1) 72) _ = _
  rw [Dq (by omega) (by omega)]; rfl
theorem aaw {a1 a2 a3 a4 : LL} (k : Int) {a6 : LL} (h1 : WR CZ.ct 276 a1) (b1 : Db a1 ≤ 1048576) (h2 : WR CZ.ct 130 a2) (b2 : Db a2 ≤ 1048576) (b3 : Db a3 ≤ 1048576) (b4 : Db a4 ≤ 1048576) (b6 : Db a6 ≤ 1048576) : Qw.c a1 a2 a3 a4 k a6 = some ⟨[[.lst a1, .lst a2, .lst a3, .lst a4, .int k, .lst a6]], []⟩ := by
 have l3 := Dk a3
 have l4 := Dk a4
 have l6 := Dk a6
 rw [Qw.eq, aaz a1 h1 b1, aax a2 h2 b2, Vs a3 (by omega), Dq (by omega) (by omega), Dq (by omega) (by omega)]; rfl
theorem YB {a1 a2 a3 a4 : LL} (k : Int) {a6 : LL} (h1 : WR CZ.ct 276 a1) (b1 : Db a1 ≤ 1048576) (h2 : WR CZ.ct 130 a2) (b2 : Db a2 ≤ 1048576) (b3 : Db a3 ≤ 1048576) (b4 : Db a4 ≤ 1048576) (b6 : Db a6 ≤ 1048576) : IM.c a1 a2 a3 a4 k a6 = some ⟨[[.lst a1, .lst a2, .lst a3, .lst a4, .int k, .lst a6]], []⟩ := by
 have l1 := Dk a1
 have l3 := Dk a3
 have l4 := Dk a4
 have l6 := Dk a6
 rw [IM.eq, YC a2 h2 b2, Ur a3 (by omega), Dq (by omega) (by omega), Dq (by omega) (by omega)]
 show IM.l0 a1 (ln a1) 0 0 k [] a2 a3 a4 a6 = _
 refine (IH (l0 := fun i acc => IM.l0 a1 (ln a1) i 0 k acc a2 a3 a4 a6) (xs := a1) (f := fun x => [U.int (ui x 0), U.lst (ul x 1), U.int (ui x 2)]) (R := fun acc => some ⟨[[.lst acc, .lst a2, .lst a3, .lst a4, .int k, .lst a6]], []⟩) (fun acc ha => ?_) fun i hi acc ha => ?_).trans (congrArg (fun acc : LL => (some ⟨[[.lst acc, .lst a2, .lst a3, .lst a4, .int k, .lst a6]], []⟩ : O)) (Lg fun x hx => by obtain ⟨c0, c1, c2, rfl, _⟩ := PW (h1.2 x hx); rfl))
 ·rw [IM.Da, show decide (((a1.length : Nat) : Int) < ln a1) = false from Dj (Nat.le_refl _)]; rfl
 ·have g1 := sub_lt hi 1
  have g2 := Dk (ul (a1.getD i []) 1)
  rw [IM.Da, show decide ((i : Int) < ln a1) = true from Di hi, DE hi, DJ (by omega)]
  show Cu (room (0 + (ul (a1.getD i []) 1).length) 8) (Cu (room (acc.length + 1) 40) _) = _
  rw [Dq (by omega) (by omega), Dq (by omega) (by omega)]; rfl
end Go.Proofs.YtbanfmadialnkaaGreat.Eng
/- half -/
