/- Permits of a world are bounded. -/
import Derived.Test.YtbanfmadialnkaaGreatPX1
import Derived.Test.YtbanfmadialnkaaGreatPSep
import Derived.Test.YtbanfmadialnkaaGreatPA10
namespace Go.Proofs.YtbanfmadialnkaaGreat.Eng
open Go.RowKit
set_option linter.unusedVariables false
set_option linter.unusedSimpArgs false
set_option linter.unusedSectionVars false
set_option maxRecDepth 100000
variable [Sm]
/- instances too -/
theorem ZA {x : List U} (h : xz Db.ct (Db.ct 176) x) : [U.int (x.getD 0 U0).toInt, U.int (x.getD 1 U0).toInt, U.int (x.getD 2 U0).toInt, U.int (x.getD 3 U0).toInt, U.int (x.getD 4 U0).toInt, U.int (x.getD 5 U0).toInt, U.int (x.getD 6 U0).toInt, U.int (x.getD 7 U0).toInt, U.int (x.getD 8 U0).toInt] = x := by
 obtain ⟨c0, c1, c2, c3, c4, c5, c6, c7, c8, rfl⟩ := Uk h
 rfl
/-- The entries of a kind. -/
def entries (ts : List (List U)) (k : Int) : List (List U) := (flat ts).filter fun e => decide (v0 e = k)
theorem RP (a0 : Int) (a1 a2 a3 a4 : List (List U)) (a5 : Int) (a6 a7 a8 a9 : List (List U)) (Dg : Int) (Dd a12 Dj Di Dk Dh : List (List U)) (Dn : Int) (De Dm : List (List U)) (k : Int) (h : WR Db.ct 167 a9) (hc : Da a9 ≤ 1048576) : EA.c a0 a1 a2 a3 a4 a5 a6 a7 a8 a9 Dg Dd a12 Dj Di Dk Dh Dn De Dm k = some ⟨[[.CY (entries a9 k)]], []⟩ := by
 have hl := DA a9
 rw [EA.eq]; (try dsimp +instances only [gr, gi, gl, gb, gt, ui, ul, ub, ut, CX, ln, Cu, aI.i, aI.l, aI.b, aI.t, aI.ij, aI.lj, aI.bj, aI.tj])
 have := WJ (l0 := fun i s => EA.l0 k a9 (a9.length : Int) i s) (R := fun s => some ⟨[[.CY s]], []⟩) (ts := a9) (f := fun x => (x.getD 0 U0).bX.filter fun e => decide (v0 e = k)) (g := fun x => (x.getD 0 U0).bX) (M := 1048576) (fun x => List.length_filter_le _ _) (fun s hs => ?_) (fun i hi s hs => ?_) [] (by have := Mj a9; unfold flat at this; simp only [List.length_nil]; omega)
 ·refine this.trans ?_
  unfold entries flat
  rw [List.filter_flatMap]; rfl
 ·rw [EA.CZ]; (try dsimp +instances only [gr, gi, gl, gb, gt, ui, ul, ub, ut, CX, ln, Cu, aI.i, aI.l, aI.b, aI.t, aI.ij, aI.lj, aI.bj, aI.tj]); rw [Dq (Nat.le_refl _)]; rfl
 ·obtain ⟨l, hr, hw⟩ := LI (h.2 _ (Du hi (z := [])))
  have h1 := Pn hi hr
  have h2 := DA l
  rw [EA.CZ]; (try dsimp +instances only [gr, gi, gl, gb, gt, ui, ul, ub, ut, CX, ln, Cu, aI.i, aI.l, aI.b, aI.t, aI.ij, aI.lj, aI.bj, aI.tj]); rw [Dr hi, Dy, decide_eq_true hi, Int.toNat_natCast, hr]
  rw [hr] at hs
  refine WI (l1 := fun j s => EA.l1 k a9 (a9.length : Int) i l (l.length : Int) j s) (K := fun s => EA.l0 k a9 (a9.length : Int) ((i + 1 : Nat) : Int) s) (l := l) (p := fun e => decide (v0 e = k)) (M := 1048576) (fun s hs => ?_) (fun j hj s hs => ?_) s hs
  ·rw [EA.DS]; (try dsimp +instances only [gr, gi, gl, gb, gt, ui, ul, ub, ut, CX, ln, Cu, aI.i, aI.l, aI.b, aI.t, aI.ij, aI.lj, aI.bj, aI.tj]); rw [Dq (Nat.le_refl _), DC (n := i) (by omega)]; rfl
  ·rw [EA.DS]; (try dsimp +instances only [gr, gi, gl, gb, gt, ui, ul, ub, ut, CX, ln, Cu, aI.i, aI.l, aI.b, aI.t, aI.ij, aI.lj, aI.bj, aI.tj]); rw [Dr hj, Dy, decide_eq_true hj, Int.toNat_natCast, ZA (hw.2 _ (Du hj (z := []))), DM (by simp; omega) (by simp; omega), DC (n := j) (by omega)]; rfl
/-- What bounds a permit. -/
def late (rv : List (List U)) (e : List U) : Bool := decide ((e.getD 6 U0).toInt = 1) && (decide (Iq rv (e.getD 3 U0).toInt ≥ 0) && decide (IntKind.i64.wrap ((e.getD 1 U0).toInt - 10) > Iq rv (e.getD 3 U0).toInt))
def bounded (ts rv : List (List U)) : Bool := (entries ts 1).all fun e => !late rv e
theorem Vt (ts : List (List U)) (q : List U → Bool) : ((List.range ts.length).all fun i => ((ts.getD i []).getD 0 U0).bX.all q) = (flat ts).all q := by
 rw [Jv ts [] fun x => (x.getD 0 U0).bX.all q, flat, List.all_flatMap]
theorem aad (a0 : Int) (a1 a2 a3 a4 : List (List U)) (a5 : Int) (a6 a7 a8 a9 : List (List U)) (Dg : Int) (Dd a12 Dj Di Dk Dh : List (List U)) (Dn : Int) (De Dm : List (List U)) (h : WR Db.ct 167 a9) (hc : Da a9 ≤ 1048576) (hr : a4.length ≤ 1048576) : EF.c a0 a1 a2 a3 a4 a5 a6 a7 a8 a9 Dg Dd a12 Dj Di Dk Dh Dn De Dm = rB (bounded a9 a4) := by
 have hl := DA a9
 rw [EF.eq]; (try dsimp +instances only [gr, gi, gl, gb, gt, ui, ul, ub, ut, CX, ln, Cu, aI.i, aI.l, aI.b, aI.t, aI.ij, aI.lj, aI.bj, aI.tj])
 refine (Jy (l0 := fun i => EF.l0 i a0 a1 a2 a3 a4 a5 a6 a7 a8 a9 Dg Dd a12 Dj Di Dk Dh Dn De Dm) (n := a9.length) (p := fun i => ((a9.getD i []).getD 0 U0).bX.all fun e => !(decide (v0 e = 1) && late a4 e)) (R := rB true) (F := rB false) ?_ fun i hi => ?_).trans ?_
 ·rw [EF.CZ]; (try dsimp +instances only [gr, gi, gl, gb, gt, ui, ul, ub, ut, CX, ln, Cu, aI.i, aI.l, aI.b, aI.t, aI.ij, aI.lj, aI.bj, aI.tj]); rw [Dq (Nat.le_refl _)]; rfl
 ·obtain ⟨l, aG, hw⟩ := LI (h.2 _ (Du hi (z := [])))
  have h1 := Pn hi aG
  have h2 := DA l
  rw [EF.CZ]; (try dsimp +instances only [gr, gi, gl, gb, gt, ui, ul, ub, ut, CX, ln, Cu, aI.i, aI.l, aI.b, aI.t, aI.ij, aI.lj, aI.bj, aI.tj]); rw [Dr hi, aG]
  refine (Jy (l0 := fun j => EF.l1 i j a0 a1 a2 a3 a4 a5 a6 a7 a8 a9 Dg Dd a12 Dj Di Dk Dh Dn De Dm) (n := l.length) (p := fun j => !(decide (v0 (l.getD j []) = 1) && late a4 (l.getD j []))) (R := EF.l0 ((i + 1 : Nat) : Int) a0 a1 a2 a3 a4 a5 a6 a7 a8 a9 Dg Dd a12 Dj Di Dk Dh Dn De Dm) (F := rB false) ?_ fun j hj => ?_).trans ?_
  ·rw [EF.DS]; (try dsimp +instances only [gr, gi, gl, gb, gt, ui, ul, ub, ut, CX, ln, Cu, aI.i, aI.l, aI.b, aI.t, aI.ij, aI.lj, aI.bj, aI.tj]); rw [Dy, decide_eq_true hi, Int.toNat_natCast, aG]
   show (bif decide ((l.length : Int) < (l.length : Int)) then _ else _) = _
   rw [Dq (Nat.le_refl _), DC (n := i) (by omega)]; rfl
  ·rw [EF.DS]; (try dsimp +instances only [gr, gi, gl, gb, gt, ui, ul, ub, ut, CX, ln, Cu, aI.i, aI.l, aI.b, aI.t, aI.ij, aI.lj, aI.bj, aI.tj]); rw [Dy, decide_eq_true hi, Int.toNat_natCast, aG]
   show (bif decide ((j : Int) < (l.length : Int)) then bif dk (j : Int) l.length then _ else _ else _) = _
   rw [Dr hj, Dy, decide_eq_true hj, DC (n := j) (by omega)]
   show ((HZ.c a4 (((l.getD j []).getD 3 U0).toInt)).bind _) = _
   rw [aaL _ (by omega)]
   show (bif decide (v0 (l.getD j []) = 1) then bif decide (((l.getD j []).getD 6 U0).toInt = 1) then bif decide (Iq a4 ((l.getD j []).getD 3 U0).toInt ≥ 0) then bif decide (IntKind.i64.wrap (((l.getD j []).getD 1 U0).toInt - 10) > Iq a4 ((l.getD j []).getD 3 U0).toInt) then _ else _ else _ else _ else _) = _
   unfold late
   cases decide (v0 (l.getD j []) = 1)
   ·rfl
   cases decide (((l.getD j []).getD 6 U0).toInt = 1)
   ·rfl
   cases decide (Iq a4 ((l.getD j []).getD 3 U0).toInt ≥ 0)
   ·rfl
   cases decide (IntKind.i64.wrap (((l.getD j []).getD 1 U0).toInt - 10) > Iq a4 ((l.getD j []).getD 3 U0).toInt) <;> rfl
  ·rw [Jv l [] fun e => !(decide (v0 e = 1) && late a4 e)]; rfl
 ·rw [Vt]
  unfold bounded entries
  rw [List.all_filter]
  have e : (fun e : List U => !(decide (v0 e = 1) && late a4 e)) = fun e => !decide (v0 e = 1) || !late a4 e := by funext e; rw [Bool.not_and]
  rw [e]
  cases (flat a9).all _ <;> rfl
theorem Xz (a0 : Int) (a1 a2 a3 a4 : List (List U)) (a5 : Int) (a6 a7 a8 a9 : List (List U)) (Dg : Int) (Dd a12 Dj Di Dk Dh : List (List U)) (Dn : Int) (De Dm : List (List U)) (h : WR Db.ct 167 a9) (hc : Da a9 ≤ 1048576) (hr : a4.length ≤ 1048576) : MT.c a0 a1 a2 a3 a4 a5 a6 a7 a8 a9 Dg Dd a12 Dj Di Dk Dh Dn De Dm = rB (bounded a9 a4) := by
 have gd := Mj a9
 have di : (entries a9 1).length ≤ 1048576 := by unfold entries; have := List.length_filter_le (fun e => decide (v0 e = 1)) (flat a9); omega
 rw [MT.eq]; (try dsimp +instances only [gr, gi, gl, gb, gt, ui, ul, ub, ut, CX, ln, Cu, aI.i, aI.l, aI.b, aI.t, aI.ij, aI.lj, aI.bj, aI.tj]); rw [RP _ _ _ _ _ _ _ _ _ _ _ _ _ _ _ _ _ _ _ _ _ h hc]
 show ((OR.c (entries a9 1) a0 a1 a2 a3 a4 a5 a6 a7 a8 a9 Dg Dd a12 Dj Di Dk Dh Dn De Dm).bind _) = _
 have : Iw.c (entries a9 1) a0 a1 a2 a3 a4 a5 a6 a7 a8 a9 Dg Dd a12 Dj Di Dk Dh Dn De Dm = rI (pos (fun i => late a4 ((entries a9 1).getD i [])) (entries a9 1).length 0) := by
  rw [Iw.eq]; (try dsimp +instances only [gr, gi, gl, gb, gt, ui, ul, ub, ut, CX, ln, Cu, aI.i, aI.l, aI.b, aI.t, aI.ij, aI.lj, aI.bj, aI.tj])
  generalize entries a9 1 = es at di
  refine Hs (l0 := fun i => Iw.l0 es a0 a1 a2 a3 a4 a5 a6 a7 a8 a9 Dg Dd a12 Dj Di Dk Dh Dn De Dm _ i) (n := es.length) (p := fun i => late a4 (es.getD i [])) ?_ fun i hi => ?_
  ·rw [Iw.CZ]; (try dsimp +instances only [gr, gi, gl, gb, gt, ui, ul, ub, ut, CX, ln, Cu, aI.i, aI.l, aI.b, aI.t, aI.ij, aI.lj, aI.bj, aI.tj]); rw [Dq (Nat.le_refl _)]; rfl
  ·rw [Iw.CZ]; (try dsimp +instances only [gr, gi, gl, gb, gt, ui, ul, ub, ut, CX, ln, Cu, aI.i, aI.l, aI.b, aI.t, aI.ij, aI.lj, aI.bj, aI.tj]); rw [Dr hi, Dy, decide_eq_true hi, DC (by omega), Qn.eq, Yg _ (by omega)]
   show (Option.bind (bif decide (((es.getD i []).getD 6 U0).toInt = 1) then bif decide (Iq a4 ((es.getD i []).getD 3 U0).toInt ≥ 0) then _ else _ else _) _) = _
   unfold late
   cases h1 : decide (((es.getD i []).getD 6 U0).toInt = 1)
   ·rfl
   cases h2 : decide (Iq a4 ((es.getD i []).getD 3 U0).toInt ≥ 0) <;> rfl
 rw [OR.eq]; (try dsimp +instances only [gr, gi, gl, gb, gt, ui, ul, ub, ut, CX, ln, Cu, aI.i, aI.l, aI.b, aI.t, aI.ij, aI.lj, aI.bj, aI.tj]); rw [this]
 show rB (!decide (pos _ _ _ ≥ 0)) = _
 rw [Jn (late a4)]
 unfold bounded
 rw [List.all_eq_not_any_not]
 simp only [Bool.not_not]
end Go.Proofs.YtbanfmadialnkaaGreat.Eng
/- half -/
