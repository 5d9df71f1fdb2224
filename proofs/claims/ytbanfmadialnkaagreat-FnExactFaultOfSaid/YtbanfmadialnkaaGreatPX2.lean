/- Permits of a world are bounded. -/
import Derived.Test.YtbanfmadialnkaaGreatPX1
import Derived.Test.YtbanfmadialnkaaGreatPSep
import Derived.Test.YtbanfmadialnkaaGreatPA10
namespace Go.Proofs.YtbanfmadialnkaaGreat.Eng
open Go.RowKit
set_option linter.unusedVariables false
set_option linter.unusedSimpArgs false
set_option linter.unusedSectionVars false
set_option maxRecDepth 100000
variable [Sm]
/- instances too -/
theorem WY {x : List U} (h : bG ao.ct (ao.ct 176) x) : [U.int (x.getD 0 U0).toInt, U.int (x.getD 1 U0).toInt, U.int (x.getD 2 U0).toInt, U.int (x.getD 3 U0).toInt, U.int (x.getD 4 U0).toInt, U.int (x.getD 5 U0).toInt, U.int (x.getD 6 U0).toInt, U.int (x.getD 7 U0).toInt, U.int (x.getD 8 U0).toInt] = x := by
 obtain ⟨c0, c1, c2, c3, c4, c5, c6, c7, c8, rfl⟩ := LM h
 rfl
/-- The entries of a kind. -/
def entries (ts : List (List U)) (k : Int) : List (List U) := (flat ts).filter fun e => decide (v0 e = k)
theorem Dm (a0 : Int) (a1 a2 a3 a4 : List (List U)) (a5 : Int) (a6 a7 a8 a9 : List (List U)) (az : Int) (aw a12 aF aC aG aB : List (List U)) (aL : Int) (ay aJ : List (List U)) (k : Int) (h : WR ao.ct 167 a9) (hc : ai a9 ≤ 1048576) : eg.c a0 a1 a2 a3 a4 a5 a6 a7 a8 a9 az aw a12 aF aC aG aB aL ay aJ k = some ⟨[[.af (entries a9 k)]], []⟩ := by
 have hl := bl a9
 rw [eg.eq]; (try dsimp +instances only [gr, gi, gl, gb, gt, ui, ul, ub, ut, ab, ln, ae, aa.i, aa.l, aa.b, aa.t, aa.ij, aa.lj, aa.bj, aa.tj])
 have := Sx (l0 := fun i s => eg.l0 k a9 (a9.length : Int) i s) (R := fun s => some ⟨[[.af s]], []⟩) (ts := a9) (f := fun x => (x.getD 0 U0).bT.filter fun e => decide (v0 e = k)) (g := fun x => (x.getD 0 U0).bT) (M := 1048576) (fun x => List.length_filter_le _ _) (fun s hs => ?_) (fun i hi s hs => ?_) [] (by have := we a9; unfold flat at this; simp only [List.length_nil]; omega)
 ·refine this.trans ?_
  unfold entries flat
  rw [List.filter_flatMap]; rfl
 ·rw [eg.ah]; (try dsimp +instances only [gr, gi, gl, gb, gt, ui, ul, ub, ut, ab, ln, ae, aa.i, aa.l, aa.b, aa.t, aa.ij, aa.lj, aa.bj, aa.tj]); rw [aQ (Nat.le_refl _)]; rfl
 ·obtain ⟨l, hr, hw⟩ := vM (h.2 _ (aZ hi (z := [])))
  have h1 := Ay hi hr
  have h2 := bl l
  rw [eg.ah]; (try dsimp +instances only [gr, gi, gl, gb, gt, ui, ul, ub, ut, ab, ln, ae, aa.i, aa.l, aa.b, aa.t, aa.ij, aa.lj, aa.bj, aa.tj]); rw [aR hi, bg, decide_eq_true hi, Int.toNat_natCast, hr]
  rw [hr] at hs
  refine Sw (l1 := fun j s => eg.l1 k a9 (a9.length : Int) i l (l.length : Int) j s) (K := fun s => eg.l0 k a9 (a9.length : Int) ((i + 1 : Nat) : Int) s) (l := l) (p := fun e => decide (v0 e = k)) (M := 1048576) (fun s hs => ?_) (fun j hj s hs => ?_) s hs
  ·rw [eg.cH]; (try dsimp +instances only [gr, gi, gl, gb, gt, ui, ul, ub, ut, ab, ln, ae, aa.i, aa.l, aa.b, aa.t, aa.ij, aa.lj, aa.bj, aa.tj]); rw [aQ (Nat.le_refl _), bt (n := i) (by omega)]; rfl
  ·rw [eg.cH]; (try dsimp +instances only [gr, gi, gl, gb, gt, ui, ul, ub, ut, ab, ln, ae, aa.i, aa.l, aa.b, aa.t, aa.ij, aa.lj, aa.bj, aa.tj]); rw [aR hj, bg, decide_eq_true hj, Int.toNat_natCast, WY (hw.2 _ (aZ hj (z := []))), cu (by simp; omega) (by simp; omega), bt (n := j) (by omega)]; rfl
/-- What bounds a permit. -/
def late (rv : List (List U)) (e : List U) : Bool := decide ((e.getD 6 U0).toInt = 1) && (decide (lq rv (e.getD 3 U0).toInt ≥ 0) && decide (IntKind.i64.wrap ((e.getD 1 U0).toInt - 10) > lq rv (e.getD 3 U0).toInt))
def bounded (ts rv : List (List U)) : Bool := (entries ts 1).all fun e => !late rv e
theorem WZ (ts : List (List U)) (q : List U → Bool) : ((List.range ts.length).all fun i => ((ts.getD i []).getD 0 U0).bT.all q) = (flat ts).all q := by
 rw [nF ts [] fun x => (x.getD 0 U0).bT.all q, flat, List.all_flatMap]
theorem Nk (a0 : Int) (a1 a2 a3 a4 : List (List U)) (a5 : Int) (a6 a7 a8 a9 : List (List U)) (az : Int) (aw a12 aF aC aG aB : List (List U)) (aL : Int) (ay aJ : List (List U)) (h : WR ao.ct 167 a9) (hc : ai a9 ≤ 1048576) (hr : a4.length ≤ 1048576) : ef.c a0 a1 a2 a3 a4 a5 a6 a7 a8 a9 az aw a12 aF aC aG aB aL ay aJ = rB (bounded a9 a4) := by
 have hl := bl a9
 rw [ef.eq]; (try dsimp +instances only [gr, gi, gl, gb, gt, ui, ul, ub, ut, ab, ln, ae, aa.i, aa.l, aa.b, aa.t, aa.ij, aa.lj, aa.bj, aa.tj])
 refine (ou (l0 := fun i => ef.l0 i a0 a1 a2 a3 a4 a5 a6 a7 a8 a9 az aw a12 aF aC aG aB aL ay aJ) (n := a9.length) (p := fun i => ((a9.getD i []).getD 0 U0).bT.all fun e => !(decide (v0 e = 1) && late a4 e)) (R := rB true) (F := rB false) ?_ fun i hi => ?_).trans ?_
 ·rw [ef.ah]; (try dsimp +instances only [gr, gi, gl, gb, gt, ui, ul, ub, ut, ab, ln, ae, aa.i, aa.l, aa.b, aa.t, aa.ij, aa.lj, aa.bj, aa.tj]); rw [aQ (Nat.le_refl _)]; rfl
 ·obtain ⟨l, av, hw⟩ := vM (h.2 _ (aZ hi (z := [])))
  have h1 := Ay hi av
  have h2 := bl l
  rw [ef.ah]; (try dsimp +instances only [gr, gi, gl, gb, gt, ui, ul, ub, ut, ab, ln, ae, aa.i, aa.l, aa.b, aa.t, aa.ij, aa.lj, aa.bj, aa.tj]); rw [aR hi, av]
  refine (ou (l0 := fun j => ef.l1 i j a0 a1 a2 a3 a4 a5 a6 a7 a8 a9 az aw a12 aF aC aG aB aL ay aJ) (n := l.length) (p := fun j => !(decide (v0 (l.getD j []) = 1) && late a4 (l.getD j []))) (R := ef.l0 ((i + 1 : Nat) : Int) a0 a1 a2 a3 a4 a5 a6 a7 a8 a9 az aw a12 aF aC aG aB aL ay aJ) (F := rB false) ?_ fun j hj => ?_).trans ?_
  ·rw [ef.cH]; (try dsimp +instances only [gr, gi, gl, gb, gt, ui, ul, ub, ut, ab, ln, ae, aa.i, aa.l, aa.b, aa.t, aa.ij, aa.lj, aa.bj, aa.tj]); rw [bg, decide_eq_true hi, Int.toNat_natCast, av]
   show (bif decide ((l.length : Int) < (l.length : Int)) then _ else _) = _
   rw [aQ (Nat.le_refl _), bt (n := i) (by omega)]; rfl
  ·rw [ef.cH]; (try dsimp +instances only [gr, gi, gl, gb, gt, ui, ul, ub, ut, ab, ln, ae, aa.i, aa.l, aa.b, aa.t, aa.ij, aa.lj, aa.bj, aa.tj]); rw [bg, decide_eq_true hi, Int.toNat_natCast, av]
   show (bif decide ((j : Int) < (l.length : Int)) then bif an (j : Int) l.length then _ else _ else _) = _
   rw [aR hj, bg, decide_eq_true hj, bt (n := j) (by omega)]
   show ((kl.c a4 (((l.getD j []).getD 3 U0).toInt)).bind _) = _
   rw [NM _ (by omega)]
   show (bif decide (v0 (l.getD j []) = 1) then bif decide (((l.getD j []).getD 6 U0).toInt = 1) then bif decide (lq a4 ((l.getD j []).getD 3 U0).toInt ≥ 0) then bif decide (IntKind.i64.wrap (((l.getD j []).getD 1 U0).toInt - 10) > lq a4 ((l.getD j []).getD 3 U0).toInt) then _ else _ else _ else _ else _) = _
   unfold late
   cases decide (v0 (l.getD j []) = 1)
   ·rfl
   cases decide (((l.getD j []).getD 6 U0).toInt = 1)
   ·rfl
   cases decide (lq a4 ((l.getD j []).getD 3 U0).toInt ≥ 0)
   ·rfl
   cases decide (IntKind.i64.wrap (((l.getD j []).getD 1 U0).toInt - 10) > lq a4 ((l.getD j []).getD 3 U0).toInt) <;> rfl
  ·rw [nF l [] fun e => !(decide (v0 e = 1) && late a4 e)]; rfl
 ·rw [WZ]
  unfold bounded entries
  rw [List.all_filter]
  have e : (fun e : List U => !(decide (v0 e = 1) && late a4 e)) = fun e => !decide (v0 e = 1) || !late a4 e := by funext e; rw [Bool.not_and]
  rw [e]
  cases (flat a9).all _ <;> rfl
theorem Nl (a0 : Int) (a1 a2 a3 a4 : List (List U)) (a5 : Int) (a6 a7 a8 a9 : List (List U)) (az : Int) (aw a12 aF aC aG aB : List (List U)) (aL : Int) (ay aJ : List (List U)) (h : WR ao.ct 167 a9) (hc : ai a9 ≤ 1048576) (hr : a4.length ≤ 1048576) : xh.c a0 a1 a2 a3 a4 a5 a6 a7 a8 a9 az aw a12 aF aC aG aB aL ay aJ = rB (bounded a9 a4) := by
 have la := we a9
 have eB : (entries a9 1).length ≤ 1048576 := by unfold entries; have := List.length_filter_le (fun e => decide (v0 e = 1)) (flat a9); omega
 rw [xh.eq]; (try dsimp +instances only [gr, gi, gl, gb, gt, ui, ul, ub, ut, ab, ln, ae, aa.i, aa.l, aa.b, aa.t, aa.ij, aa.lj, aa.bj, aa.tj]); rw [Dm _ _ _ _ _ _ _ _ _ _ _ _ _ _ _ _ _ _ _ _ _ h hc]
 show ((xA.c (entries a9 1) a0 a1 a2 a3 a4 a5 a6 a7 a8 a9 az aw a12 aF aC aG aB aL ay aJ).bind _) = _
 have : lG.c (entries a9 1) a0 a1 a2 a3 a4 a5 a6 a7 a8 a9 az aw a12 aF aC aG aB aL ay aJ = rI (pos (fun i => late a4 ((entries a9 1).getD i [])) (entries a9 1).length 0) := by
  rw [lG.eq]; (try dsimp +instances only [gr, gi, gl, gb, gt, ui, ul, ub, ut, ab, ln, ae, aa.i, aa.l, aa.b, aa.t, aa.ij, aa.lj, aa.bj, aa.tj])
  generalize entries a9 1 = es at eB
  refine kj (l0 := fun i => lG.l0 es a0 a1 a2 a3 a4 a5 a6 a7 a8 a9 az aw a12 aF aC aG aB aL ay aJ _ i) (n := es.length) (p := fun i => late a4 (es.getD i [])) ?_ fun i hi => ?_
  ·rw [lG.ah]; (try dsimp +instances only [gr, gi, gl, gb, gt, ui, ul, ub, ut, ab, ln, ae, aa.i, aa.l, aa.b, aa.t, aa.ij, aa.lj, aa.bj, aa.tj]); rw [aQ (Nat.le_refl _)]; rfl
  ·rw [lG.ah]; (try dsimp +instances only [gr, gi, gl, gb, gt, ui, ul, ub, ut, ab, ln, ae, aa.i, aa.l, aa.b, aa.t, aa.ij, aa.lj, aa.bj, aa.tj]); rw [aR hi, bg, decide_eq_true hi, bt (by omega), Bj.eq, NN _ (by omega)]
   show (Option.bind (bif decide (((es.getD i []).getD 6 U0).toInt = 1) then bif decide (lq a4 ((es.getD i []).getD 3 U0).toInt ≥ 0) then _ else _ else _) _) = _
   unfold late
   cases h1 : decide (((es.getD i []).getD 6 U0).toInt = 1)
   ·rfl
   cases h2 : decide (lq a4 ((es.getD i []).getD 3 U0).toInt ≥ 0) <;> rfl
 rw [xA.eq]; (try dsimp +instances only [gr, gi, gl, gb, gt, ui, ul, ub, ut, ab, ln, ae, aa.i, aa.l, aa.b, aa.t, aa.ij, aa.lj, aa.bj, aa.tj]); rw [this]
 show rB (!decide (pos _ _ _ ≥ 0)) = _
 rw [nH (late a4)]
 unfold bounded
 rw [List.all_eq_not_any_not]
 simp only [Bool.not_not]
end Go.Proofs.YtbanfmadialnkaaGreat.Eng
/- half -/
