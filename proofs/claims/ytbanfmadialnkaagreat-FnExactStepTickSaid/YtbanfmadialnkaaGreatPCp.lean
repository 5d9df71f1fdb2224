/- Copies of centers and of worlds are what is copied. -/
import Derived.Test.YtbanfmadialnkaaGreatPA10
import Derived.Test.YtbanfmadialnkaaGreatPEm
namespace Go.Proofs.YtbanfmadialnkaaGreat.Eng
open Go.RowKit
set_option linter.unusedVariables false
set_option linter.unusedSimpArgs false
set_option linter.unusedSectionVars false
set_option maxRecDepth 100000
variable [Sm]
theorem KR {xs : LL} {f : List U → List U} (h : ∀ x ∈ xs, f x = x) : xs.map f = xs := (List.map_congr_left h).trans (List.map_id xs)
theorem aan (xs : LL) (h : WR CZ.ct 195 xs) (hc : Db xs ≤ 1048576) : Jx.c xs = rL xs := by
 have hl := Dk xs
 rw [Jx.eq]
 refine (Iz (l0 := fun i acc => Jx.l0 xs i acc) (xs := xs) (f := fun x => [U.int (ui x 0), U.int (ui x 1), U.int (ui x 2), U.lst (ul x 3), U.int (ui x 4), U.int (ui x 5), U.bool (ub x 6)]) (R := fun acc => rL acc) (fun acc ha => ?_) fun i hi acc ha => ?_).trans (congrArg rL (KR fun x hx => by obtain ⟨c0, c1, c2, c3, c4, c5, c6, rfl, _⟩ := PC (h.2 x hx); rfl))
 ·rw [Jx.Da, Dj (Nat.le_refl _)]; rfl
 ·have h1 := sub_lt hi 3
  have h2 := Dk (ul (xs.getD i []) 3)
  rw [Jx.Da, Di hi, Dw hi, DG (by omega)]
  show Cu (room (0 + (ul (xs.getD i []) 3).length) 8) (Cu (room (acc.length + 1) 72) _) = _
  rw [Dr (by omega) (by omega), Dr (by omega) (by omega)]; rfl
theorem Yi (xs : LL) (h : WR CZ.ct 195 xs) (hc : Db xs ≤ 1048576) : Jb.c xs = rL xs := by
 have hl := Dk xs
 rw [Jb.eq]
 refine (Iz (l0 := fun i acc => Jb.l0 xs _ i acc) (xs := xs) (f := fun x => [U.int (ui x 0), U.int (ui x 1), U.int (ui x 2), U.lst (ul x 3), U.int (ui x 4), U.int (ui x 5), U.bool (ub x 6)]) (R := fun acc => rL acc) (fun acc ha => ?_) fun i hi acc ha => ?_).trans (congrArg rL (KR fun x hx => by obtain ⟨c0, c1, c2, c3, c4, c5, c6, rfl, _⟩ := PC (h.2 x hx); rfl))
 ·rw [Jb.Da, Dj (Nat.le_refl _)]; rfl
 ·have h1 := sub_lt hi 3
  have h2 := Dk (ul (xs.getD i []) 3)
  rw [Jb.Da, Di hi, Dw hi, DG (by omega)]
  show Cu (room (0 + (ul (xs.getD i []) 3).length) 8) (Cu (room (acc.length + 1) 72) _) = _
  rw [Dr (by omega) (by omega), Dr (by omega) (by omega)]; rfl
theorem aao (xs : LL) (h : WR CZ.ct 276 xs) (hc : Db xs ≤ 1048576) : JB.c xs = rL xs := by
 have hl := Dk xs
 rw [JB.eq]
 refine (Iz (l0 := fun i acc => JB.l0 xs i acc) (xs := xs) (f := fun x => [U.int (ui x 0), U.lst (ul x 1), U.int (ui x 2)]) (R := fun acc => rL acc) (fun acc ha => ?_) fun i hi acc ha => ?_).trans (congrArg rL (KR fun x hx => by obtain ⟨c0, c1, c2, rfl, _⟩ := PE (h.2 x hx); rfl))
 ·rw [JB.Da, Dj (Nat.le_refl _)]; rfl
 ·have h1 := sub_lt hi 1
  have h2 := Dk (ul (xs.getD i []) 1)
  rw [JB.Da, Di hi, Dw hi, DG (by omega)]
  show Cu (room (0 + (ul (xs.getD i []) 1).length) 8) (Cu (room (acc.length + 1) 40) _) = _
  rw [Dr (by omega) (by omega), Dr (by omega) (by omega)]; rfl
theorem aam (xs : LL) (h : WR CZ.ct 130 xs) (hc : Db xs ≤ 1048576) : Jw.c xs = rL xs := by
 have hl := Dk xs
 rw [Jw.eq]
 refine (Iz (l0 := fun i acc => Jw.l0 xs i acc) (xs := xs) (f := fun x => [U.int (ui x 0), U.int (ui x 1), U.lst (ul x 2), U.int (ui x 3), U.lst (FA (ul x 4))]) (R := fun acc => rL acc) (fun acc ha => ?_) fun i hi acc ha => ?_).trans (congrArg rL (KR fun x hx => by obtain ⟨c0, c1, c2, c3, c4, rfl, _, h4⟩ := PA (h.2 x hx); show [U.int c0, U.int c1, U.lst c2, U.int c3, U.lst (FA c4)] = _; rw [Sd h4]))
 ·rw [Jw.Da, Dj (Nat.le_refl _)]; rfl
 ·have h1 := sub_lt hi 2
  have h2 := Dk (ul (xs.getD i []) 2)
  have h4 := sub_lt hi 4
  rw [Jw.Da, Di hi, Dw hi, DG (by omega), Vi _ _ (gl xs (i : Int) 2) _ (gl xs (i : Int) 4) (by show (ul (xs.getD i []) 2).length ≤ _; omega) (by show Db (ul (xs.getD i []) 4) ≤ _; omega)]
  show Cu (room (acc.length + 1) 72) _ = _
  rw [Dr (by omega) (by omega)]; rfl
theorem Yh (xs : LL) (h : WR CZ.ct 130 xs) (hc : Db xs ≤ 1048576) : Ja.c xs = rL xs := by
 have hl := Dk xs
 rw [Ja.eq]
 refine (Iz (l0 := fun i acc => Ja.l0 xs _ i acc) (xs := xs) (f := fun x => [U.int (ui x 0), U.int (ui x 1), U.lst (ul x 2), U.int (ui x 3), U.lst (FA (ul x 4))]) (R := fun acc => rL acc) (fun acc ha => ?_) fun i hi acc ha => ?_).trans (congrArg rL (KR fun x hx => by obtain ⟨c0, c1, c2, c3, c4, rfl, _, h4⟩ := PA (h.2 x hx); show [U.int c0, U.int c1, U.lst c2, U.int c3, U.lst (FA c4)] = _; rw [Sd h4]))
 ·rw [Ja.Da, Dj (Nat.le_refl _)]; rfl
 ·have h1 := sub_lt hi 2
  have h2 := Dk (ul (xs.getD i []) 2)
  have h4 := sub_lt hi 4
  rw [Ja.Da, Di hi, Dw hi, DG (by omega), Uf _ _ (gl xs (i : Int) 2) _ (gl xs (i : Int) 4) (by show (ul (xs.getD i []) 2).length ≤ _; omega) (by show Db (ul (xs.getD i []) 4) ≤ _; omega)]
  show Cu (room (acc.length + 1) 72) _ = _
  rw [Dr (by omega) (by omega)]; rfl
theorem aal {a1 a2 a3 a4 : LL} (k : Int) {a6 : LL} (h1 : WR CZ.ct 276 a1) (b1 : Db a1 ≤ 1048576) (h2 : WR CZ.ct 130 a2) (b2 : Db a2 ≤ 1048576) (b3 : Db a3 ≤ 1048576) (b4 : Db a4 ≤ 1048576) (b6 : Db a6 ≤ 1048576) : Qh.c a1 a2 a3 a4 k a6 = some ⟨[[.lst a1, .lst a2, .lst a3, .lst a4, .int k, .lst a6]], []⟩ := by
 have l3 := Dk a3
 have l4 := Dk a4
 have l6 := Dk a6
 rw [Qh.eq, aao a1 h1 b1, aam a2 h2 b2, Vj a3 (by omega), Dr (by omega) (by omega), Dr (by omega) (by omega)]; rfl
theorem Yg {a1 a2 a3 a4 : LL} (k : Int) {a6 : LL} (h1 : WR CZ.ct 276 a1) (b1 : Db a1 ≤ 1048576) (h2 : WR CZ.ct 130 a2) (b2 : Db a2 ≤ 1048576) (b3 : Db a3 ≤ 1048576) (b4 : Db a4 ≤ 1048576) (b6 : Db a6 ≤ 1048576) : IG.c a1 a2 a3 a4 k a6 = some ⟨[[.lst a1, .lst a2, .lst a3, .lst a4, .int k, .lst a6]], []⟩ := by
 have l1 := Dk a1
 have l3 := Dk a3
 have l4 := Dk a4
 have l6 := Dk a6
 rw [IG.eq, Yh a2 h2 b2, Ug a3 (by omega), Dr (by omega) (by omega), Dr (by omega) (by omega)]
 show IG.l0 a1 (ln a1) 0 0 k [] a2 a3 a4 a6 = _
 refine (Iz (l0 := fun i acc => IG.l0 a1 (ln a1) i 0 k acc a2 a3 a4 a6) (xs := a1) (f := fun x => [U.int (ui x 0), U.lst (ul x 1), U.int (ui x 2)]) (R := fun acc => some ⟨[[.lst acc, .lst a2, .lst a3, .lst a4, .int k, .lst a6]], []⟩) (fun acc ha => ?_) fun i hi acc ha => ?_).trans (congrArg (fun acc : LL => (some ⟨[[.lst acc, .lst a2, .lst a3, .lst a4, .int k, .lst a6]], []⟩ : O)) (KR fun x hx => by obtain ⟨c0, c1, c2, rfl, _⟩ := PE (h1.2 x hx); rfl))
 ·rw [IG.Da, show decide (((a1.length : Nat) : Int) < ln a1) = false from Dj (Nat.le_refl _)]; rfl
 ·have g1 := sub_lt hi 1
  have g2 := Dk (ul (a1.getD i []) 1)
  rw [IG.Da, show decide ((i : Int) < ln a1) = true from Di hi, Dw hi, DG (by omega)]
  show Cu (room (0 + (ul (a1.getD i []) 1).length) 8) (Cu (room (acc.length + 1) 40) _) = _
  rw [Dr (by omega) (by omega), Dr (by omega) (by omega)]; rfl
end Go.Proofs.YtbanfmadialnkaaGreat.Eng
/- half -/
