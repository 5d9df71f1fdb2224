/- Copies of emergencies are what is copied. -/
import Derived.Test.YtaghmjcfaplkiaaGreatPA2
import Derived.Test.YtaghmjcfaplkiaaGreatH
import Derived.Test.YtaghmjcfaplkiaaGreatPT
namespace Go.Proofs.YtaghmjcfaplkiaaGreat.Eng
open Go.RowKit
set_option linter.unusedVariables false
set_option linter.unusedSimpArgs false
set_option linter.unusedSectionVars false
set_option maxRecDepth 100000
variable [Sm]
/- instances too -/
theorem SW {l0 : Int → List (List U) → Option aJ} {n : Nat} {row : Nat → List U} {R : List (List U) → Option aJ} (Hb : ∀ s, s.length ≤ n → l0 (n : Int) s = R s) (iH : ∀ i, i < n → ∀ s : List (List U), s.length ≤ i → l0 (i : Int) s = l0 ((i + 1 : Nat) : Int) (s ++ [row i])) : l0 0 [] = R ((List.range n).map row) := by
 have := QI (p := fun _ => true) Hb iH
 rwa [List.filter_eq_self.2 fun _ _ => rfl] at this
theorem Rs {xs : List (List U)} {i : Nat} {a b c d : Int} {u : List (List U)} {s : Bool} (hi : i < xs.length) (hr : xs.getD i [] = [.int a, .int b, .int c, .int d, .lst u, .bool s]) : u.length ≤ Fx xs := by
 have h := FX (FB hi (z := []))
 rw [hr] at h
 simp only [FP, FV] at h
 have := FF u
 omega
theorem Uc (xs : List (List U)) (h : WR Fw.ct 94 xs) (hc : Fx xs ≤ 1048576) : Kr.c xs = some ⟨[[.lst xs]], []⟩ := by
 have hl := FF xs
 rw [Kr.eq]; (try dsimp +instances only [gr, gi, gl, gb, gt, ui, ul, ub, ut, Ft, ln, EK, aJ.i, aJ.l, aJ.b, aJ.t, aJ.ij, aJ.lj, aJ.bj, aJ.tj])
 refine (SW (l0 := fun i s => Kr.l0 xs i s) (n := xs.length) (row := fun i => xs.getD i []) (R := fun s => some ⟨[[.lst s]], []⟩) (fun s hs => ?_) fun i hi s hs => ?_).trans (by rw [Hh])
 ·rw [Kr.Fy]; (try dsimp +instances only [gr, gi, gl, gb, gt, ui, ul, ub, ut, Ft, ln, EK, aJ.i, aJ.l, aJ.b, aJ.t, aJ.ij, aJ.lj, aJ.bj, aJ.tj]); rw [FK (Nat.le_refl _)]; rfl
 ·obtain ⟨a, b, c, d, u, e, hr, hu⟩ := Lx (h.2 _ (FB hi (z := [])))
  have := Rs hi hr
  rw [Kr.Fy]; (try dsimp +instances only [gr, gi, gl, gb, gt, ui, ul, ub, ut, Ft, ln, EK, aJ.i, aJ.l, aJ.b, aJ.t, aJ.ij, aJ.lj, aJ.bj, aJ.tj]); rw [FJ hi, FG, decide_eq_true hi, FU (by omega), Int.toNat_natCast, hr, FW (by show (0 + u.length) * 8 ≤ _; omega) (by show 0 + u.length ≤ _; omega), FW (by simp; omega) (by simp; omega)]
  rfl
theorem Tp (xs : List (List U)) (h : WR Fw.ct 94 xs) (hc : Fx xs ≤ 1048576) : Kp.c xs = some ⟨[[.lst xs]], []⟩ := by
 have hl := FF xs
 rw [Kp.eq]; (try dsimp +instances only [gr, gi, gl, gb, gt, ui, ul, ub, ut, Ft, ln, EK, aJ.i, aJ.l, aJ.b, aJ.t, aJ.ij, aJ.lj, aJ.bj, aJ.tj])
 refine (SW (l0 := fun i s => Kp.l0 xs _ i s) (n := xs.length) (row := fun i => xs.getD i []) (R := fun s => some ⟨[[.lst s]], []⟩) (fun s hs => ?_) fun i hi s hs => ?_).trans (by rw [Hh])
 ·rw [Kp.Fy]; (try dsimp +instances only [gr, gi, gl, gb, gt, ui, ul, ub, ut, Ft, ln, EK, aJ.i, aJ.l, aJ.b, aJ.t, aJ.ij, aJ.lj, aJ.bj, aJ.tj]); rw [FK (Nat.le_refl _)]; rfl
 ·obtain ⟨a, b, c, d, u, e, hr, hu⟩ := Lx (h.2 _ (FB hi (z := [])))
  have := Rs hi hr
  rw [Kp.Fy]; (try dsimp +instances only [gr, gi, gl, gb, gt, ui, ul, ub, ut, Ft, ln, EK, aJ.i, aJ.l, aJ.b, aJ.t, aJ.ij, aJ.lj, aJ.bj, aJ.tj]); rw [FJ hi, FG, decide_eq_true hi, FU (by omega), Int.toNat_natCast, hr, FW (by show (0 + u.length) * 8 ≤ _; omega) (by show 0 + u.length ≤ _; omega), FW (by simp; omega) (by simp; omega)]
  rfl
end Go.Proofs.YtaghmjcfaplkiaaGreat.Eng
/- half -/
