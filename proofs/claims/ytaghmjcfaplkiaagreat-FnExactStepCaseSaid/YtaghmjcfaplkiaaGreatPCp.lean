/- Copies of centers and of worlds are what is copied. -/
import Derived.Test.YtaghmjcfaplkiaaGreatPA10
import Derived.Test.YtaghmjcfaplkiaaGreatPEm
namespace Go.Proofs.YtaghmjcfaplkiaaGreat.Eng
open Go.RowKit
set_option linter.unusedVariables false
set_option linter.unusedSimpArgs false
set_option linter.unusedSectionVars false
set_option maxRecDepth 100000
variable [Sm]
theorem Ma {xs : LL} {f : List U → List U} (h : ∀ x ∈ xs, f x = x) : xs.map f = xs := (List.map_congr_left h).trans (List.map_id xs)
theorem Ya (xs : LL) (h : WR Fw.ct 185 xs) (hc : Fx xs ≤ 1048576) : KT.c xs = rL xs := by
 have hl := FF xs
 rw [KT.eq]
 refine (Km (l0 := fun i acc => KT.l0 xs i acc) (xs := xs) (f := fun x => [U.int (ui x 0), U.int (ui x 1), U.int (ui x 2), U.lst (ul x 3), U.int (ui x 4), U.int (ui x 5), U.bool (ub x 6)]) (R := fun acc => rL acc) (fun acc ha => ?_) fun i hi acc ha => ?_).trans (congrArg rL (Ma fun x hx => by obtain ⟨c0, c1, c2, c3, c4, c5, c6, rfl, _⟩ := PD (h.2 x hx); rfl))
 ·rw [KT.Fy, FK (Nat.le_refl _)]; rfl
 ·have h1 := sub_lt hi 3
  have h2 := FF (ul (xs.getD i []) 3)
  rw [KT.Fy, FJ hi, GH hi, HS (by omega)]
  show EK (room (0 + (ul (xs.getD i []) 3).length) 8) (EK (room (acc.length + 1) 72) _) = _
  rw [FW (by omega) (by omega), FW (by omega) (by omega)]; rfl
theorem WE (xs : LL) (h : WR Fw.ct 185 xs) (hc : Fx xs ≤ 1048576) : KJ.c xs = rL xs := by
 have hl := FF xs
 rw [KJ.eq]
 refine (Km (l0 := fun i acc => KJ.l0 xs _ i acc) (xs := xs) (f := fun x => [U.int (ui x 0), U.int (ui x 1), U.int (ui x 2), U.lst (ul x 3), U.int (ui x 4), U.int (ui x 5), U.bool (ub x 6)]) (R := fun acc => rL acc) (fun acc ha => ?_) fun i hi acc ha => ?_).trans (congrArg rL (Ma fun x hx => by obtain ⟨c0, c1, c2, c3, c4, c5, c6, rfl, _⟩ := PD (h.2 x hx); rfl))
 ·rw [KJ.Fy, FK (Nat.le_refl _)]; rfl
 ·have h1 := sub_lt hi 3
  have h2 := FF (ul (xs.getD i []) 3)
  rw [KJ.Fy, FJ hi, GH hi, HS (by omega)]
  show EK (room (0 + (ul (xs.getD i []) 3).length) 8) (EK (room (acc.length + 1) 72) _) = _
  rw [FW (by omega) (by omega), FW (by omega) (by omega)]; rfl
theorem Yb (xs : LL) (h : WR Fw.ct 252 xs) (hc : Fx xs ≤ 1048576) : KU.c xs = rL xs := by
 have hl := FF xs
 rw [KU.eq]
 refine (Km (l0 := fun i acc => KU.l0 xs i acc) (xs := xs) (f := fun x => [U.int (ui x 0), U.lst (ul x 1), U.int (ui x 2)]) (R := fun acc => rL acc) (fun acc ha => ?_) fun i hi acc ha => ?_).trans (congrArg rL (Ma fun x hx => by obtain ⟨c0, c1, c2, rfl, _⟩ := PE (h.2 x hx); rfl))
 ·rw [KU.Fy, FK (Nat.le_refl _)]; rfl
 ·have h1 := sub_lt hi 1
  have h2 := FF (ul (xs.getD i []) 1)
  rw [KU.Fy, FJ hi, GH hi, HS (by omega)]
  show EK (room (0 + (ul (xs.getD i []) 1).length) 8) (EK (room (acc.length + 1) 40) _) = _
  rw [FW (by omega) (by omega), FW (by omega) (by omega)]; rfl
theorem XZ (xs : LL) (h : WR Fw.ct 164 xs) (hc : Fx xs ≤ 1048576) : KS.c xs = rL xs := by
 have hl := FF xs
 rw [KS.eq]
 refine (Km (l0 := fun i acc => KS.l0 xs i acc) (xs := xs) (f := fun x => [U.int (ui x 0), U.int (ui x 1), U.lst (ul x 2), U.int (ui x 3), U.lst (Ik (ul x 4))]) (R := fun acc => rL acc) (fun acc ha => ?_) fun i hi acc ha => ?_).trans (congrArg rL (Ma fun x hx => by obtain ⟨c0, c1, c2, c3, c4, rfl, _, h4⟩ := PB (h.2 x hx); show [U.int c0, U.int c1, U.lst c2, U.int c3, U.lst (Ik c4)] = _; rw [RO h4]))
 ·rw [KS.Fy, FK (Nat.le_refl _)]; rfl
 ·have h1 := sub_lt hi 2
  have h2 := FF (ul (xs.getD i []) 2)
  have h4 := sub_lt hi 4
  rw [KS.Fy, FJ hi, GH hi, HS (by omega), Ue _ _ (gl xs (i : Int) 2) _ (gl xs (i : Int) 4) (by show (ul (xs.getD i []) 2).length ≤ _; omega) (by show Fx (ul (xs.getD i []) 4) ≤ _; omega)]
  show EK (room (acc.length + 1) 72) _ = _
  rw [FW (by omega) (by omega)]; rfl
theorem WD (xs : LL) (h : WR Fw.ct 164 xs) (hc : Fx xs ≤ 1048576) : KI.c xs = rL xs := by
 have hl := FF xs
 rw [KI.eq]
 refine (Km (l0 := fun i acc => KI.l0 xs _ i acc) (xs := xs) (f := fun x => [U.int (ui x 0), U.int (ui x 1), U.lst (ul x 2), U.int (ui x 3), U.lst (Ik (ul x 4))]) (R := fun acc => rL acc) (fun acc ha => ?_) fun i hi acc ha => ?_).trans (congrArg rL (Ma fun x hx => by obtain ⟨c0, c1, c2, c3, c4, rfl, _, h4⟩ := PB (h.2 x hx); show [U.int c0, U.int c1, U.lst c2, U.int c3, U.lst (Ik c4)] = _; rw [RO h4]))
 ·rw [KI.Fy, FK (Nat.le_refl _)]; rfl
 ·have h1 := sub_lt hi 2
  have h2 := FF (ul (xs.getD i []) 2)
  have h4 := sub_lt hi 4
  rw [KI.Fy, FJ hi, GH hi, HS (by omega), Tr _ _ (gl xs (i : Int) 2) _ (gl xs (i : Int) 4) (by show (ul (xs.getD i []) 2).length ≤ _; omega) (by show Fx (ul (xs.getD i []) 4) ≤ _; omega)]
  show EK (room (acc.length + 1) 72) _ = _
  rw [FW (by omega) (by omega)]; rfl
theorem XY {a1 a2 a3 a4 : LL} (k : Int) {a6 : LL} (h1 : WR Fw.ct 252 a1) (b1 : Fx a1 ≤ 1048576) (h2 : WR Fw.ct 164 a2) (b2 : Fx a2 ≤ 1048576) (b3 : Fx a3 ≤ 1048576) (b4 : Fx a4 ≤ 1048576) (b6 : Fx a6 ≤ 1048576) : PZ.c a1 a2 a3 a4 k a6 = some ⟨[[.lst a1, .lst a2, .lst a3, .lst a4, .int k, .lst a6]], []⟩ := by
 have l3 := FF a3
 have l4 := FF a4
 have l6 := FF a6
 rw [PZ.eq, Yb a1 h1 b1, XZ a2 h2 b2, Uf a3 (by omega), FW (by omega) (by omega), FW (by omega) (by omega)]; rfl
theorem WC {a1 a2 a3 a4 : LL} (k : Int) {a6 : LL} (h1 : WR Fw.ct 252 a1) (b1 : Fx a1 ≤ 1048576) (h2 : WR Fw.ct 164 a2) (b2 : Fx a2 ≤ 1048576) (b3 : Fx a3 ≤ 1048576) (b4 : Fx a4 ≤ 1048576) (b6 : Fx a6 ≤ 1048576) : Ko.c a1 a2 a3 a4 k a6 = some ⟨[[.lst a1, .lst a2, .lst a3, .lst a4, .int k, .lst a6]], []⟩ := by
 have l1 := FF a1
 have l3 := FF a3
 have l4 := FF a4
 have l6 := FF a6
 rw [Ko.eq, WD a2 h2 b2, Ts a3 (by omega), FW (by omega) (by omega), FW (by omega) (by omega)]
 show Ko.l0 a1 (ln a1) 0 0 k [] a2 a3 a4 a6 = _
 refine (Km (l0 := fun i acc => Ko.l0 a1 (ln a1) i 0 k acc a2 a3 a4 a6) (xs := a1) (f := fun x => [U.int (ui x 0), U.lst (ul x 1), U.int (ui x 2)]) (R := fun acc => some ⟨[[.lst acc, .lst a2, .lst a3, .lst a4, .int k, .lst a6]], []⟩) (fun acc ha => ?_) fun i hi acc ha => ?_).trans (congrArg (fun acc : LL => (some ⟨[[.lst acc, .lst a2, .lst a3, .lst a4, .int k, .lst a6]], []⟩ : O)) (Ma fun x hx => by obtain ⟨c0, c1, c2, rfl, _⟩ := PE (h1.2 x hx); rfl))
 ·rw [Ko.Fy, show decide (((a1.length : Nat) : Int) < ln a1) = false from FK (Nat.le_refl _)]; rfl
 ·have g1 := sub_lt hi 1
  have g2 := FF (ul (a1.getD i []) 1)
  rw [Ko.Fy, show decide ((i : Int) < ln a1) = true from FJ hi, GH hi, HS (by omega)]
  show EK (room (0 + (ul (a1.getD i []) 1).length) 8) (EK (room (acc.length + 1) 40) _) = _
  rw [FW (by omega) (by omega), FW (by omega) (by omega)]; rfl
end Go.Proofs.YtaghmjcfaplkiaaGreat.Eng
/- half -/
