/- Copies of emergencies are what is copied. -/
import Derived.Test.YtbanfmadialnkaaGreatPA2
import Derived.Test.YtbanfmadialnkaaGreatH
import Derived.Test.YtbanfmadialnkaaGreatPT
namespace Go.Proofs.YtbanfmadialnkaaGreat.Eng
open Go.RowKit
set_option linter.unusedVariables false
set_option linter.unusedSimpArgs false
set_option linter.unusedSectionVars false
set_option maxRecDepth 100000
variable [Sm]
/- instances too -/
theorem TY {l0 : Int → List (List U) → Option aI} {n : Nat} {row : Nat → List U} {R : List (List U) → Option aI} (Es : ∀ s, s.length ≤ n → l0 (n : Int) s = R s) (gU : ∀ i, i < n → ∀ s : List (List U), s.length ≤ i → l0 (i : Int) s = l0 ((i + 1 : Nat) : Int) (s ++ [row i])) : l0 0 [] = R ((List.range n).map row) := by
 have := LP (p := fun _ => true) Es gU
 rwa [List.filter_eq_self.2 fun _ _ => rfl] at this
theorem VO {xs : List (List U)} {i : Nat} {a b c d : Int} {u : List (List U)} {s : Bool} (hi : i < xs.length) (hr : xs.getD i [] = [.int a, .int b, .int c, .int d, .lst u, .bool s]) : u.length ≤ Db xs := by
 have h := DH (De hi (z := []))
 rw [hr] at h
 simp only [Dp, Ds] at h
 have := Dk u
 omega
theorem aav (xs : List (List U)) (h : WR CZ.ct 180 xs) (hc : Db xs ≤ 1048576) : JE.c xs = some ⟨[[.lst xs]], []⟩ := by
 have hl := Dk xs
 rw [JE.eq]; (try dsimp +instances only [gr, gi, gl, gb, gt, ui, ul, ub, ut, CX, ln, Cu, aI.i, aI.l, aI.b, aI.t, aI.ij, aI.lj, aI.bj, aI.tj])
 refine (TY (l0 := fun i s => JE.l0 xs i s) (n := xs.length) (row := fun i => xs.getD i []) (R := fun s => some ⟨[[.lst s]], []⟩) (fun s hs => ?_) fun i hi s hs => ?_).trans (by rw [EP])
 ·rw [JE.Da]; (try dsimp +instances only [gr, gi, gl, gb, gt, ui, ul, ub, ut, CX, ln, Cu, aI.i, aI.l, aI.b, aI.t, aI.ij, aI.lj, aI.bj, aI.tj]); rw [Dj (Nat.le_refl _)]; rfl
 ·obtain ⟨a, b, c, d, u, e, hr, hu⟩ := PR (h.2 _ (De hi (z := [])))
  have := VO hi hr
  rw [JE.Da]; (try dsimp +instances only [gr, gi, gl, gb, gt, ui, ul, ub, ut, CX, ln, Cu, aI.i, aI.l, aI.b, aI.t, aI.ij, aI.lj, aI.bj, aI.tj]); rw [Di hi, Dm, decide_eq_true hi, Dr (by omega), Int.toNat_natCast, hr, Dq (by show (0 + u.length) * 8 ≤ _; omega) (by show 0 + u.length ≤ _; omega), Dq (by simp; omega) (by simp; omega)]
  rfl
theorem YA (xs : List (List U)) (h : WR CZ.ct 180 xs) (hc : Db xs ≤ 1048576) : Je.c xs = some ⟨[[.lst xs]], []⟩ := by
 have hl := Dk xs
 rw [Je.eq]; (try dsimp +instances only [gr, gi, gl, gb, gt, ui, ul, ub, ut, CX, ln, Cu, aI.i, aI.l, aI.b, aI.t, aI.ij, aI.lj, aI.bj, aI.tj])
 refine (TY (l0 := fun i s => Je.l0 xs _ i s) (n := xs.length) (row := fun i => xs.getD i []) (R := fun s => some ⟨[[.lst s]], []⟩) (fun s hs => ?_) fun i hi s hs => ?_).trans (by rw [EP])
 ·rw [Je.Da]; (try dsimp +instances only [gr, gi, gl, gb, gt, ui, ul, ub, ut, CX, ln, Cu, aI.i, aI.l, aI.b, aI.t, aI.ij, aI.lj, aI.bj, aI.tj]); rw [Dj (Nat.le_refl _)]; rfl
 ·obtain ⟨a, b, c, d, u, e, hr, hu⟩ := PR (h.2 _ (De hi (z := [])))
  have := VO hi hr
  rw [Je.Da]; (try dsimp +instances only [gr, gi, gl, gb, gt, ui, ul, ub, ut, CX, ln, Cu, aI.i, aI.l, aI.b, aI.t, aI.ij, aI.lj, aI.bj, aI.tj]); rw [Di hi, Dm, decide_eq_true hi, Dr (by omega), Int.toNat_natCast, hr, Dq (by show (0 + u.length) * 8 ≤ _; omega) (by show 0 + u.length ≤ _; omega), Dq (by simp; omega) (by simp; omega)]
  rfl
end Go.Proofs.YtbanfmadialnkaaGreat.Eng
/- half -/
