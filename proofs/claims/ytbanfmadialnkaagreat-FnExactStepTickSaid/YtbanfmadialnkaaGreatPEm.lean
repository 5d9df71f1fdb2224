/- Copies of emergencies are what is copied. -/
import Derived.Test.YtbanfmadialnkaaGreatPA2
import Derived.Test.YtbanfmadialnkaaGreatH
import Derived.Test.YtbanfmadialnkaaGreatPT
namespace Go.Proofs.YtbanfmadialnkaaGreat.Eng
open Go.RowKit
set_option linter.unusedVariables false
set_option linter.unusedSimpArgs false
set_option linter.unusedSectionVars false
set_option maxRecDepth 100000
variable [Sm]
/- instances too -/
theorem TN {l0 : Int → List (List U) → Option aI} {n : Nat} {row : Nat → List U} {R : List (List U) → Option aI} (Ep : ∀ s, s.length ≤ n → l0 (n : Int) s = R s) (gU : ∀ i, i < n → ∀ s : List (List U), s.length ≤ i → l0 (i : Int) s = l0 ((i + 1 : Nat) : Int) (s ++ [row i])) : l0 0 [] = R ((List.range n).map row) := by
 have := Lw (p := fun _ => true) Ep gU
 rwa [List.filter_eq_self.2 fun _ _ => rfl] at this
theorem VG {xs : List (List U)} {i : Nat} {a b c d : Int} {u : List (List U)} {s : Bool} (hi : i < xs.length) (hr : xs.getD i [] = [.int a, .int b, .int c, .int d, .lst u, .bool s]) : u.length ≤ Db xs := by
 have h := DH (Dg hi (z := []))
 rw [hr] at h
 simp only [Dn, Dt] at h
 have := Dk u
 omega
theorem aak (xs : List (List U)) (h : WR CZ.ct 180 xs) (hc : Db xs ≤ 1048576) : Jy.c xs = some ⟨[[.lst xs]], []⟩ := by
 have hl := Dk xs
 rw [Jy.eq]; (try dsimp +instances only [gr, gi, gl, gb, gt, ui, ul, ub, ut, CX, ln, Cu, aI.i, aI.l, aI.b, aI.t, aI.ij, aI.lj, aI.bj, aI.tj])
 refine (TN (l0 := fun i s => Jy.l0 xs i s) (n := xs.length) (row := fun i => xs.getD i []) (R := fun s => some ⟨[[.lst s]], []⟩) (fun s hs => ?_) fun i hi s hs => ?_).trans (by rw [EO])
 ·rw [Jy.Da]; (try dsimp +instances only [gr, gi, gl, gb, gt, ui, ul, ub, ut, CX, ln, Cu, aI.i, aI.l, aI.b, aI.t, aI.ij, aI.lj, aI.bj, aI.tj]); rw [Dj (Nat.le_refl _)]; rfl
 ·obtain ⟨a, b, c, d, u, e, hr, hu⟩ := PB (h.2 _ (Dg hi (z := [])))
  have := VG hi hr
  rw [Jy.Da]; (try dsimp +instances only [gr, gi, gl, gb, gt, ui, ul, ub, ut, CX, ln, Cu, aI.i, aI.l, aI.b, aI.t, aI.ij, aI.lj, aI.bj, aI.tj]); rw [Di hi, Dm, decide_eq_true hi, Dq (by omega), Int.toNat_natCast, hr, Dr (by show (0 + u.length) * 8 ≤ _; omega) (by show 0 + u.length ≤ _; omega), Dr (by simp; omega) (by simp; omega)]
  rfl
theorem Yf (xs : List (List U)) (h : WR CZ.ct 180 xs) (hc : Db xs ≤ 1048576) : IZ.c xs = some ⟨[[.lst xs]], []⟩ := by
 have hl := Dk xs
 rw [IZ.eq]; (try dsimp +instances only [gr, gi, gl, gb, gt, ui, ul, ub, ut, CX, ln, Cu, aI.i, aI.l, aI.b, aI.t, aI.ij, aI.lj, aI.bj, aI.tj])
 refine (TN (l0 := fun i s => IZ.l0 xs _ i s) (n := xs.length) (row := fun i => xs.getD i []) (R := fun s => some ⟨[[.lst s]], []⟩) (fun s hs => ?_) fun i hi s hs => ?_).trans (by rw [EO])
 ·rw [IZ.Da]; (try dsimp +instances only [gr, gi, gl, gb, gt, ui, ul, ub, ut, CX, ln, Cu, aI.i, aI.l, aI.b, aI.t, aI.ij, aI.lj, aI.bj, aI.tj]); rw [Dj (Nat.le_refl _)]; rfl
 ·obtain ⟨a, b, c, d, u, e, hr, hu⟩ := PB (h.2 _ (Dg hi (z := [])))
  have := VG hi hr
  rw [IZ.Da]; (try dsimp +instances only [gr, gi, gl, gb, gt, ui, ul, ub, ut, CX, ln, Cu, aI.i, aI.l, aI.b, aI.t, aI.ij, aI.lj, aI.bj, aI.tj]); rw [Di hi, Dm, decide_eq_true hi, Dq (by omega), Int.toNat_natCast, hr, Dr (by show (0 + u.length) * 8 ≤ _; omega) (by show 0 + u.length ≤ _; omega), Dr (by simp; omega) (by simp; omega)]
  rfl
end Go.Proofs.YtbanfmadialnkaaGreat.Eng
/- half -/
