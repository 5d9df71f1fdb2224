/- Counts of a world's entries. -/
import Derived.Test.YtbanfmadialnkaaGreatPT
import Derived.Test.YtbanfmadialnkaaGreatPB2
import Derived.Test.YtbanfmadialnkaaGreatH
namespace Go.Proofs.YtbanfmadialnkaaGreat.Eng
open Go.RowKit
set_option linter.unusedVariables false
set_option linter.unusedSimpArgs false
set_option linter.unusedSectionVars false
set_option maxRecDepth 100000
variable [Sm]
/- instances too -/
theorem M5 (xs : List (List U)) (hx : xs.length ≤ 1048576) : Af (iw.c xs) (js.c xs) := ⟨mW xs, Mq xs hx, Mp xs hx⟩
theorem W1 (xs : List (List U)) (hx : xs.length ≤ 1048576) (k o : Int) : Af (iU.c xs k o) (iV.c xs k o) := by
 rw [iU.eq, iV.eq]; (try dsimp +instances only [gr, gi, gl, gb, gt, ui, ul, ub, ut, ab, ln, ae, aa.i, aa.l, aa.b, aa.t, aa.ij, aa.lj, aa.bj, aa.tj])
 refine KO (A := fun (s : Int) i => iU.l0 xs k o s i) (B := fun s i => iV.l0 k o s xs _ i) (n := xs.length) (P := Af) (fun s => ?_) (fun i hi s => .inr ?_) 0
 ·exact ⟨s, by rw [iU.ah]; (try dsimp +instances only [gr, gi, gl, gb, gt, ui, ul, ub, ut, ab, ln, ae, aa.i, aa.l, aa.b, aa.t, aa.ij, aa.lj, aa.bj, aa.tj]); rw [aQ (Nat.le_refl _)]; rfl, by rw [iV.ah]; (try dsimp +instances only [gr, gi, gl, gb, gt, ui, ul, ub, ut, ab, ln, ae, aa.i, aa.l, aa.b, aa.t, aa.ij, aa.lj, aa.bj, aa.tj]); rw [aQ (Nat.le_refl _)]; rfl⟩
 ·rw [iU.ah, iV.ah]; (try dsimp +instances only [gr, gi, gl, gb, gt, ui, ul, ub, ut, ab, ln, ae, aa.i, aa.l, aa.b, aa.t, aa.ij, aa.lj, aa.bj, aa.tj]); rw [aR hi, bg, decide_eq_true hi, bt (by omega), Int.toNat_natCast]
  cases decide (((xs.getD i []).getD 0 U0).toInt = k)
  ·exact ⟨s, rfl, rfl⟩
  ·cases decide (((xs.getD i []).getD 6 U0).toInt = o)
   ·exact ⟨s, rfl, rfl⟩
   ·exact ⟨_, rfl, rfl⟩
theorem Ay {ts : List (List U)} {i : Nat} {l : List (List U)} (hi : i < ts.length) (hr : ts.getD i [] = [.af l]) : ai l < ai ts := by
 have h := ca (aZ hi (z := []))
 rw [hr] at h
 simpa only [bh, bw, Nat.add_zero] using h
theorem Hr (a0 : Int) (a1 a2 a3 a4 : List (List U)) (a5 : Int) (a6 a7 a8 a9 : List (List U)) (az : Int) (aw a12 aF aC aG aB : List (List U)) (aL : Int) (ay aJ : List (List U)) (o : Int) (h : WR ao.ct 167 a9) (hc : ai a9 ≤ 1048576) : Af (kp.c a0 a1 a2 a3 a4 a5 a6 a7 a8 a9 az aw a12 aF aC aG aB aL ay aJ o) (kt.c a0 a1 a2 a3 a4 a5 a6 a7 a8 a9 az aw a12 aF aC aG aB aL ay aJ o) := by
 have hl := bl a9
 rw [kp.eq, kt.eq]; (try dsimp +instances only [gr, gi, gl, gb, gt, ui, ul, ub, ut, ab, ln, ae, aa.i, aa.l, aa.b, aa.t, aa.ij, aa.lj, aa.bj, aa.tj])
 refine KO (A := fun (s : Int) i => kp.l0 o s i a0 a1 a2 a3 a4 a5 a6 a7 a8 a9 az aw a12 aF aC aG aB aL ay aJ) (B := fun s i => kt.l0 o s a9 _ i) (n := a9.length) (P := Af) (fun s => ?_) (fun i hi s => .inr ?_) 0
 ·exact ⟨s, by rw [kp.ah]; (try dsimp +instances only [gr, gi, gl, gb, gt, ui, ul, ub, ut, ab, ln, ae, aa.i, aa.l, aa.b, aa.t, aa.ij, aa.lj, aa.bj, aa.tj]); rw [aQ (Nat.le_refl _)]; rfl, by rw [kt.ah]; (try dsimp +instances only [gr, gi, gl, gb, gt, ui, ul, ub, ut, ab, ln, ae, aa.i, aa.l, aa.b, aa.t, aa.ij, aa.lj, aa.bj, aa.tj]); rw [aQ (Nat.le_refl _)]; rfl⟩
 ·obtain ⟨l, hr, hw⟩ := vM (h.2 _ (aZ hi (z := [])))
  have h1 := Ay hi hr
  have h2 := bl l
  obtain ⟨n, h3, h4⟩ := W1 l (by omega) 1 o
  rw [kp.ah, kt.ah]; (try dsimp +instances only [gr, gi, gl, gb, gt, ui, ul, ub, ut, ab, ln, ae, aa.i, aa.l, aa.b, aa.t, aa.ij, aa.lj, aa.bj, aa.tj]); rw [aR hi, bg, decide_eq_true hi, bt (by omega), Int.toNat_natCast, hr]
  refine ⟨IntKind.i64.wrap (s + n), ?_, ?_⟩
  ·show ((iU.c l 1 o).bind _) = _
   rw [h3]; rfl
  ·show ((iV.c l 1 o).bind _) = _
   rw [h4]; rfl
end Go.Proofs.YtbanfmadialnkaaGreat.Eng
/- half -/
