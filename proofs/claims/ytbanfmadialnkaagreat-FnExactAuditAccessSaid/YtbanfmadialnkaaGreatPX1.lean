/- Counts of a world's entries. -/
import Derived.Test.YtbanfmadialnkaaGreatPT
import Derived.Test.YtbanfmadialnkaaGreatPB2
import Derived.Test.YtbanfmadialnkaaGreatH
namespace Go.Proofs.YtbanfmadialnkaaGreat.Eng
open Go.RowKit
set_option linter.unusedVariables false
set_option linter.unusedSimpArgs false
set_option linter.unusedSectionVars false
set_option maxRecDepth 100000
variable [Sm]
/- instances too -/
theorem aaY (xs : List (List U)) (hx : xs.length ≤ 1048576) : LX (GN.c xs) (Hg.c xs) := ⟨Jm xs, UR xs hx, TF xs hx⟩
theorem aaX (xs : List (List U)) (hx : xs.length ≤ 1048576) (k o : Int) : LX (GX.c xs k o) (GO.c xs k o) := by
 rw [GX.eq, GO.eq]; (try dsimp +instances only [gr, gi, gl, gb, gt, ui, ul, ub, ut, CX, ln, Cu, aI.i, aI.l, aI.b, aI.t, aI.ij, aI.lj, aI.bj, aI.tj])
 refine Vh (A := fun (s : Int) i => GX.l0 xs k o s i) (B := fun s i => GO.l0 k o s xs _ i) (n := xs.length) (P := LX) (fun s => ?_) (fun i hi s => .inr ?_) 0
 ·exact ⟨s, by rw [GX.CZ]; (try dsimp +instances only [gr, gi, gl, gb, gt, ui, ul, ub, ut, CX, ln, Cu, aI.i, aI.l, aI.b, aI.t, aI.ij, aI.lj, aI.bj, aI.tj]); rw [Dq (Nat.le_refl _)]; rfl, by rw [GO.CZ]; (try dsimp +instances only [gr, gi, gl, gb, gt, ui, ul, ub, ut, CX, ln, Cu, aI.i, aI.l, aI.b, aI.t, aI.ij, aI.lj, aI.bj, aI.tj]); rw [Dq (Nat.le_refl _)]; rfl⟩
 ·rw [GX.CZ, GO.CZ]; (try dsimp +instances only [gr, gi, gl, gb, gt, ui, ul, ub, ut, CX, ln, Cu, aI.i, aI.l, aI.b, aI.t, aI.ij, aI.lj, aI.bj, aI.tj]); rw [Dr hi, Dy, decide_eq_true hi, DC (by omega), Int.toNat_natCast]
  cases decide (((xs.getD i []).getD 0 U0).toInt = k)
  ·exact ⟨s, rfl, rfl⟩
  ·cases decide (((xs.getD i []).getD 6 U0).toInt = o)
   ·exact ⟨s, rfl, rfl⟩
   ·exact ⟨_, rfl, rfl⟩
theorem Pn {ts : List (List U)} {i : Nat} {l : List (List U)} (hi : i < ts.length) (hr : ts.getD i [] = [.CY l]) : Da l < Da ts := by
 have h := DJ (Du hi (z := []))
 rw [hr] at h
 simpa only [Dz, DD, Nat.add_zero] using h
theorem UB (a0 : Int) (a1 a2 a3 a4 : List (List U)) (a5 : Int) (a6 a7 a8 a9 : List (List U)) (Dg : Int) (Dd a12 Dj Di Dk Dh : List (List U)) (Dn : Int) (De Dm : List (List U)) (o : Int) (h : WR Db.ct 167 a9) (hc : Da a9 ≤ 1048576) : LX (HV.c a0 a1 a2 a3 a4 a5 a6 a7 a8 a9 Dg Dd a12 Dj Di Dk Dh Dn De Dm o) (Hw.c a0 a1 a2 a3 a4 a5 a6 a7 a8 a9 Dg Dd a12 Dj Di Dk Dh Dn De Dm o) := by
 have hl := DA a9
 rw [HV.eq, Hw.eq]; (try dsimp +instances only [gr, gi, gl, gb, gt, ui, ul, ub, ut, CX, ln, Cu, aI.i, aI.l, aI.b, aI.t, aI.ij, aI.lj, aI.bj, aI.tj])
 refine Vh (A := fun (s : Int) i => HV.l0 o s i a0 a1 a2 a3 a4 a5 a6 a7 a8 a9 Dg Dd a12 Dj Di Dk Dh Dn De Dm) (B := fun s i => Hw.l0 o s a9 _ i) (n := a9.length) (P := LX) (fun s => ?_) (fun i hi s => .inr ?_) 0
 ·exact ⟨s, by rw [HV.CZ]; (try dsimp +instances only [gr, gi, gl, gb, gt, ui, ul, ub, ut, CX, ln, Cu, aI.i, aI.l, aI.b, aI.t, aI.ij, aI.lj, aI.bj, aI.tj]); rw [Dq (Nat.le_refl _)]; rfl, by rw [Hw.CZ]; (try dsimp +instances only [gr, gi, gl, gb, gt, ui, ul, ub, ut, CX, ln, Cu, aI.i, aI.l, aI.b, aI.t, aI.ij, aI.lj, aI.bj, aI.tj]); rw [Dq (Nat.le_refl _)]; rfl⟩
 ·obtain ⟨l, hr, hw⟩ := LI (h.2 _ (Du hi (z := [])))
  have h1 := Pn hi hr
  have h2 := DA l
  obtain ⟨n, h3, h4⟩ := aaX l (by omega) 1 o
  rw [HV.CZ, Hw.CZ]; (try dsimp +instances only [gr, gi, gl, gb, gt, ui, ul, ub, ut, CX, ln, Cu, aI.i, aI.l, aI.b, aI.t, aI.ij, aI.lj, aI.bj, aI.tj]); rw [Dr hi, Dy, decide_eq_true hi, DC (by omega), Int.toNat_natCast, hr]
  refine ⟨IntKind.i64.wrap (s + n), ?_, ?_⟩
  ·show ((GX.c l 1 o).bind _) = _
   rw [h3]; rfl
  ·show ((GO.c l 1 o).bind _) = _
   rw [h4]; rfl
end Go.Proofs.YtbanfmadialnkaaGreat.Eng
/- half -/
