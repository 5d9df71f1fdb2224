/- Cases and uses of a world. -/
import Derived.Test.YtbanfmadialnkaaGreatPX2
import Derived.Test.YtbanfmadialnkaaGreatPC1
namespace Go.Proofs.YtbanfmadialnkaaGreat.Eng
open Go.RowKit
set_option linter.unusedVariables false
set_option linter.unusedSimpArgs false
set_option linter.unusedSectionVars false
set_option maxRecDepth 100000
variable [Sm]
/- instances too -/
/-- An entry tells of a use. -/
def answers (u e : List U) : Bool := decide ((e.getD 6 U0).toInt = 1) && (decide ((e.getD 4 U0).toInt = (u.getD 0 U0).toInt) && (decide ((e.getD 5 U0).toInt = (u.getD 2 U0).toInt) && decide ((e.getD 1 U0).toInt = (u.getD 3 U0).toInt)))
theorem WS (ts : List (List U)) (q : List U → Bool) : ((List.range ts.length).any fun i => ((ts.getD i []).getD 0 U0).bT.any q) = (flat ts).any q := by
 rw [ov ts [] fun x => (x.getD 0 U0).bT.any q, flat, List.any_flatMap]
theorem Nf (a0 : Int) (a1 a2 a3 a4 : List (List U)) (a5 : Int) (a6 a7 a8 a9 : List (List U)) (az : Int) (aw a12 aF aC aG aB : List (List U)) (aL : Int) (ay aJ : List (List U)) (u : List U) (h : WR ao.ct 167 a9) (hc : ai a9 ≤ 1048576) : dW.c a0 a1 a2 a3 a4 a5 a6 a7 a8 a9 az aw a12 aF aC aG aB aL ay aJ (u.getD 0 U0).toInt (u.getD 1 U0).toInt (u.getD 2 U0).toInt (u.getD 3 U0).toInt = rB ((entries a9 1).any (answers u)) := by
 have hl := bl a9
 rw [dW.eq]; (try dsimp +instances only [gr, gi, gl, gb, gt, ui, ul, ub, ut, ab, ln, ae, aa.i, aa.l, aa.b, aa.t, aa.ij, aa.lj, aa.bj, aa.tj])
 refine (A0 (l0 := fun i => dW.l0 i a0 a1 a2 a3 a4 a5 a6 a7 a8 a9 az aw a12 aF aC aG aB aL ay aJ (u.getD 0 U0).toInt (u.getD 1 U0).toInt (u.getD 2 U0).toInt (u.getD 3 U0).toInt) (n := a9.length) (p := fun i => ((a9.getD i []).getD 0 U0).bT.any fun e => decide (v0 e = 1) && answers u e) (R := rB false) (F := rB true) ?_ fun i hi => ?_).trans ?_
 ·rw [dW.ah]; (try dsimp +instances only [gr, gi, gl, gb, gt, ui, ul, ub, ut, ab, ln, ae, aa.i, aa.l, aa.b, aa.t, aa.ij, aa.lj, aa.bj, aa.tj]); rw [aQ (Nat.le_refl _)]; rfl
 ·obtain ⟨l, av, hw⟩ := vM (h.2 _ (aZ hi (z := [])))
  have h1 := Ay hi av
  have h2 := bl l
  rw [dW.ah]; (try dsimp +instances only [gr, gi, gl, gb, gt, ui, ul, ub, ut, ab, ln, ae, aa.i, aa.l, aa.b, aa.t, aa.ij, aa.lj, aa.bj, aa.tj]); rw [aR hi, av]
  refine (A0 (l0 := fun j => dW.l1 i j a0 a1 a2 a3 a4 a5 a6 a7 a8 a9 az aw a12 aF aC aG aB aL ay aJ (u.getD 0 U0).toInt (u.getD 1 U0).toInt (u.getD 2 U0).toInt (u.getD 3 U0).toInt) (n := l.length) (p := fun j => decide (v0 (l.getD j []) = 1) && answers u (l.getD j [])) (R := dW.l0 ((i + 1 : Nat) : Int) a0 a1 a2 a3 a4 a5 a6 a7 a8 a9 az aw a12 aF aC aG aB aL ay aJ (u.getD 0 U0).toInt (u.getD 1 U0).toInt (u.getD 2 U0).toInt (u.getD 3 U0).toInt) (F := rB true) ?_ fun j hj => ?_).trans ?_
  ·rw [dW.cH]; (try dsimp +instances only [gr, gi, gl, gb, gt, ui, ul, ub, ut, ab, ln, ae, aa.i, aa.l, aa.b, aa.t, aa.ij, aa.lj, aa.bj, aa.tj]); rw [bg, decide_eq_true hi, Int.toNat_natCast, av]
   show (bif decide ((l.length : Int) < (l.length : Int)) then _ else _) = _
   rw [aQ (Nat.le_refl _), bt (n := i) (by omega)]; rfl
  ·rw [dW.cH]; (try dsimp +instances only [gr, gi, gl, gb, gt, ui, ul, ub, ut, ab, ln, ae, aa.i, aa.l, aa.b, aa.t, aa.ij, aa.lj, aa.bj, aa.tj]); rw [bg, decide_eq_true hi, Int.toNat_natCast, av]
   show (bif decide ((j : Int) < (l.length : Int)) then bif an (j : Int) l.length then _ else _ else _) = _
   rw [aR hj, bg, decide_eq_true hj, bt (n := j) (by omega)]
   show (bif decide (v0 (l.getD j []) = 1) then bif decide (((l.getD j []).getD 6 U0).toInt = 1) then bif decide (((l.getD j []).getD 4 U0).toInt = _) then bif decide (((l.getD j []).getD 5 U0).toInt = _) then bif decide (((l.getD j []).getD 1 U0).toInt = _) then _ else _ else _ else _ else _ else _) = _
   unfold answers
   cases decide (v0 (l.getD j []) = 1)
   ·rfl
   cases decide (((l.getD j []).getD 6 U0).toInt = 1)
   ·rfl
   cases decide (((l.getD j []).getD 4 U0).toInt = (u.getD 0 U0).toInt)
   ·rfl
   cases decide (((l.getD j []).getD 5 U0).toInt = (u.getD 2 U0).toInt)
   ·rfl
   cases decide (((l.getD j []).getD 1 U0).toInt = (u.getD 3 U0).toInt) <;> rfl
  ·rw [ov l [] fun e => decide (v0 e = 1) && answers u e]; rfl
 ·rw [WS]
  unfold entries
  rw [List.any_filter]
  cases (flat a9).any _ <;> rfl
theorem WU (es : List (List U)) (vr : es.length ≤ 1048576) (u : List U) : yl.c es (u.getD 0 U0).toInt (u.getD 1 U0).toInt (u.getD 2 U0).toInt (u.getD 3 U0).toInt = rB (es.any (answers u)) := by
 have : lN.c es (u.getD 0 U0).toInt (u.getD 1 U0).toInt (u.getD 2 U0).toInt (u.getD 3 U0).toInt = rI (pos (fun i => answers u (es.getD i [])) es.length 0) := by
  rw [lN.eq]; (try dsimp +instances only [gr, gi, gl, gb, gt, ui, ul, ub, ut, ab, ln, ae, aa.i, aa.l, aa.b, aa.t, aa.ij, aa.lj, aa.bj, aa.tj])
  refine kj (l0 := fun i => lN.l0 es (u.getD 0 U0).toInt (u.getD 1 U0).toInt (u.getD 2 U0).toInt (u.getD 3 U0).toInt _ i) (n := es.length) (p := fun i => answers u (es.getD i [])) ?_ fun i hi => ?_
  ·rw [lN.ah]; (try dsimp +instances only [gr, gi, gl, gb, gt, ui, ul, ub, ut, ab, ln, ae, aa.i, aa.l, aa.b, aa.t, aa.ij, aa.lj, aa.bj, aa.tj]); rw [aQ (Nat.le_refl _)]; rfl
  ·rw [lN.ah]; (try dsimp +instances only [gr, gi, gl, gb, gt, ui, ul, ub, ut, ab, ln, ae, aa.i, aa.l, aa.b, aa.t, aa.ij, aa.lj, aa.bj, aa.tj]); rw [aR hi, bg, decide_eq_true hi, bt (by omega), Br.eq, Int.toNat_natCast]
   unfold answers
   cases decide (((es.getD i []).getD 6 U0).toInt = 1)
   ·rfl
   cases decide (((es.getD i []).getD 4 U0).toInt = (u.getD 0 U0).toInt)
   ·rfl
   cases decide (((es.getD i []).getD 5 U0).toInt = (u.getD 2 U0).toInt) <;> rfl
 rw [yl.eq]; (try dsimp +instances only [gr, gi, gl, gb, gt, ui, ul, ub, ut, ab, ln, ae, aa.i, aa.l, aa.b, aa.t, aa.ij, aa.lj, aa.bj, aa.tj]); rw [this]
 show rB (decide (pos _ _ _ ≥ 0)) = _
 rw [nH (answers u)]
theorem Ng (us es : List (List U)) (rk : us.length ≤ 1048576) (vr : es.length ≤ 1048576) : xC.c us es = rB (us.any fun u => !(es.any (answers u))) := by
 have : lH.c us es = rI (pos (fun i => !(es.any (answers (us.getD i [])))) us.length 0) := by
  rw [lH.eq]; (try dsimp +instances only [gr, gi, gl, gb, gt, ui, ul, ub, ut, ab, ln, ae, aa.i, aa.l, aa.b, aa.t, aa.ij, aa.lj, aa.bj, aa.tj])
  refine kj (l0 := fun i => lH.l0 us es _ i) (n := us.length) (p := fun i => !(es.any (answers (us.getD i [])))) ?_ fun i hi => ?_
  ·rw [lH.ah]; (try dsimp +instances only [gr, gi, gl, gb, gt, ui, ul, ub, ut, ab, ln, ae, aa.i, aa.l, aa.b, aa.t, aa.ij, aa.lj, aa.bj, aa.tj]); rw [aQ (Nat.le_refl _)]; rfl
  ·rw [lH.ah]; (try dsimp +instances only [gr, gi, gl, gb, gt, ui, ul, ub, ut, ab, ln, ae, aa.i, aa.l, aa.b, aa.t, aa.ij, aa.lj, aa.bj, aa.tj]); rw [aR hi, bg, decide_eq_true hi, bt (by omega), Bk.eq, Int.toNat_natCast, WU _ vr]
   cases es.any (answers (us.getD i [])) <;> rfl
 rw [xC.eq]; (try dsimp +instances only [gr, gi, gl, gb, gt, ui, ul, ub, ut, ab, ln, ae, aa.i, aa.l, aa.b, aa.t, aa.ij, aa.lj, aa.bj, aa.tj]); rw [this]
 show rB (decide (pos _ _ _ ≥ 0)) = _
 rw [nH fun u => !(es.any (answers u))]
/-- An entry of an emergency stands for a case. -/
def Ho (cs : List (List U)) (e : List U) : List U := cs.getD ((e.getD 3 U0).toInt - 1).toNat []
def used (os : List (List U)) (x e : List U) : Bool := decide ((e.getD 4 U0).toInt = (x.getD 1 U0).toInt) && (has os (e.getD 5 U0).toInt && tK (x.getD 2 U0).toInt (x.getD 3 U0).toInt (e.getD 1 U0).toInt)
def nE (os cs : List (List U)) (e : List U) : Bool := within (e.getD 3 U0).toInt 1 cs.length && used os (Ho cs e) e
theorem Da {cs : List (List U)} (hc : cs.length ≤ 1048576) {v : Int} (h : within v 1 cs.length = true) : ∃ k : Nat, v = ((k + 1 : Nat) : Int) ∧ k < cs.length ∧ IntKind.i64.wrap (v - 1) = (k : Int) ∧ (v - 1).toNat = k := by
 obtain ⟨h1, h2⟩ := dV h
 exact ⟨(v - 1).toNat, by omega, by omega, by rw [sX (by omega) (by omega)]; omega, rfl⟩
theorem WV (a0 : Int) (a1 a2 a3 a4 : List (List U)) (a5 : Int) (a6 a7 a8 a9 : List (List U)) (az : Int) (aw a12 aF aC aG aB : List (List U)) (aL : Int) (ay aJ : List (List U)) (e : List U) (ho : aB.length ≤ 1048576) (hc : ay.length ≤ 1048576) : tV.c a0 a1 a2 a3 a4 a5 a6 a7 a8 a9 az aw a12 aF aC aG aB aL ay aJ (e.getD 0 U0).toInt (e.getD 1 U0).toInt (e.getD 2 U0).toInt (e.getD 3 U0).toInt (e.getD 4 U0).toInt (e.getD 5 U0).toInt (e.getD 6 U0).toInt (e.getD 7 U0).toInt (e.getD 8 U0).toInt = rB (nE aB ay e) := by
 rw [tV.eq]; (try dsimp +instances only [gr, gi, gl, gb, gt, ui, ul, ub, ut, ab, ln, ae, aa.i, aa.l, aa.b, aa.t, aa.ij, aa.lj, aa.bj, aa.tj]); rw [eD, wk _ (by omega)]
 unfold nE
 cases hw : within (e.getD 3 U0).toInt 1 ay.length
 ·rfl
 ·obtain ⟨k, h1, h2, h3, h4⟩ := Da hc hw
  simp only [Option.bind_some, aa.tt, List.getD_cons_zero, U.kh, Bool.not_true, cond_false, h3, bg, decide_eq_true h2, cond_true, Int.toNat_natCast]
  unfold used Ho
  rw [h4, HI]
  cases decide ((e.getD 4 U0).toInt = ((ay.getD k []).getD 1 U0).toInt)
  ·rfl
  cases has aB (e.getD 5 U0).toInt <;> rfl
theorem WW (a0 : Int) (a1 a2 a3 a4 : List (List U)) (a5 : Int) (a6 a7 a8 a9 : List (List U)) (az : Int) (aw a12 aF aC aG aB : List (List U)) (aL : Int) (ay aJ : List (List U)) (x e : List U) (ho : aB.length ≤ 1048576) : xB.c a0 a1 a2 a3 a4 a5 a6 a7 a8 a9 az aw a12 aF aC aG aB aL ay aJ (x.getD 0 U0).toInt (x.getD 1 U0).toInt (x.getD 2 U0).toInt (x.getD 3 U0).toInt (x.getD 4 U0).bT (x.getD 5 U0).toBool (e.getD 0 U0).toInt (e.getD 1 U0).toInt (e.getD 2 U0).toInt (e.getD 3 U0).toInt (e.getD 4 U0).toInt (e.getD 5 U0).toInt (e.getD 6 U0).toInt (e.getD 7 U0).toInt (e.getD 8 U0).toInt = rB (used aB x e) := by
 rw [xB.eq]; (try dsimp +instances only [gr, gi, gl, gb, gt, ui, ul, ub, ut, ab, ln, ae, aa.i, aa.l, aa.b, aa.t, aa.ij, aa.lj, aa.bj, aa.tj]); rw [A6 _ (by omega)]
 unfold used
 cases decide ((e.getD 4 U0).toInt = (x.getD 1 U0).toInt)
 ·rfl
 simp only [Option.bind_some, aa.tt, List.getD_cons_zero, U.kh, cond_true, HJ]
 cases has aB (e.getD 5 U0).toInt <;> rfl
/-- The counters, one step on. -/
def bump (s : List (List U)) (k : Nat) : List (List U) := bJ s k 0 [U.int (IntKind.i64.wrap (((s.getD k []).getD 0 U0).toInt + 1))]
def ri (os cs : List (List U)) (e : List U) (s : List (List U)) : Option (List (List U)) := bif nE os cs e then some (bump s ((e.getD 3 U0).toInt - 1).toNat) else none
def tm (os cs : List (List U)) (e : List U) (s : List (List U)) : Option (List (List U)) := bif !decide (v0 e = 2) then some s else bif nE os cs e then some (bump s (e.getD 3 U0).toInt.toNat) else none
def tw (cs s : List (List U)) : Bool := (List.range cs.length).all fun i => decide (((s.getD i []).getD 0 U0).toInt = (((cs.getD i []).getD 4 U0).bT.length : Int))
theorem WX (z : List U) (s : List (List U)) (k : Nat) : bump (z :: s) (k + 1) = z :: bump s k := rfl
theorem run_eq {os cs : List (List U)} (hc : cs.length ≤ 1048576) {RS RI : List (List U) → Option aa} (hR : ∀ z s, RS (z :: s) = RI s) : ∀ (es : List (List U)) (z : List U) (s : List (List U)), iM (tm os cs) RS (rB false) es (z :: s) = iM (ri os cs) RI (rB false) (es.filter fun e => decide (v0 e = 2)) s
 | [], z, s => hR z s
 | e :: es, z, s => by
  rw [List.filter_cons, iM]
  unfold tm
  cases hk : decide (v0 e = 2)
  ·rw [if_neg (by simp)]
   exact run_eq hc hR es z s
  ·rw [if_pos rfl, iM]
   unfold ri
   cases ho : nE os cs e
   ·rfl
   ·have hw : within (e.getD 3 U0).toInt 1 cs.length = true := by unfold nE at ho; rw [Bool.and_eq_true] at ho; exact ho.1
    obtain ⟨k, h1, h2, h3, h4⟩ := Da hc hw
    have h5 : (e.getD 3 U0).toInt.toNat = k + 1 := by omega
    rw [h4, h5, WX]
    exact run_eq hc hR es z (bump s k)
theorem Ms (s : List (List U)) (k : Nat) : (bump s k).length = s.length := SI ..
def Db (ts os cs : List (List U)) : Option aa := iM (ri os cs) (fun s => rB (tw cs s)) (rB false) (entries ts 2) (List.replicate cs.length [U.int 0])
theorem M8 (a0 : Int) (a1 a2 a3 a4 : List (List U)) (a5 : Int) (a6 a7 a8 a9 : List (List U)) (az : Int) (aw a12 aF aC aG aB : List (List U)) (aL : Int) (ay aJ : List (List U)) (h : WR ao.ct 167 a9) (hc : ai a9 ≤ 1048576) (ho : aB.length ≤ 1048576) (cz : ay.length ≤ 1048576) : eK.c a0 a1 a2 a3 a4 a5 a6 a7 a8 a9 az aw a12 aF aC aG aB aL ay aJ = Db a9 aB ay := by
 have la := we a9
 have eB : (entries a9 2).length ≤ 1048576 := by unfold entries; have := List.length_filter_le (fun e => decide (v0 e = 2)) (flat a9); omega
 rw [eK.eq]; (try dsimp +instances only [gr, gi, gl, gb, gt, ui, ul, ub, ut, ab, ln, ae, aa.i, aa.l, aa.b, aa.t, aa.ij, aa.lj, aa.bj, aa.tj]); rw [Dm _ _ _ _ _ _ _ _ _ _ _ _ _ _ _ _ _ _ _ _ _ h hc, Int.toNat_natCast, decide_eq_true (by omega), cu (by omega) (by omega)]
 show eK.l0 ((entries a9 2).length : Int) 0 a0 a1 a2 a3 a4 a5 a6 a7 a8 a9 az aw a12 aF aC aG aB aL ay aJ (List.replicate ay.length [U.int 0]) (entries a9 2) = _
 unfold Db
 generalize entries a9 2 = es at eB
 have := KP (l1 := fun i s => eK.l0 (es.length : Int) i a0 a1 a2 a3 a4 a5 a6 a7 a8 a9 az aw a12 aF aC aG aB aL ay aJ s es) (st := ri aB ay) (R := fun s => rB (tw ay s)) (F := rB false) (I := fun s => s.length = ay.length) (l := es) (rest := []) (fun e s s' hs he => ?_) (fun s hs => ?_) (fun i hi s hs => ?_) (List.replicate ay.length [U.int 0]) (by simp)
 ·rw [List.append_nil] at this; exact this
 ·unfold ri at he
  cases bW : nE aB ay e
  ·rw [bW] at he; cases he
  ·rw [bW] at he; cases he; rw [Ms]; exact hs
 ·rw [eK.ah]; (try dsimp +instances only [gr, gi, gl, gb, gt, ui, ul, ub, ut, ab, ln, ae, aa.i, aa.l, aa.b, aa.t, aa.ij, aa.lj, aa.bj, aa.tj]); rw [aQ (Nat.le_refl _)]
  refine (dr (l0 := fun i => eK.l1 ay _ i s) (n := ay.length) (p := fun i => decide (((s.getD i []).getD 0 U0).toInt = (((ay.getD i []).getD 4 U0).bT.length : Int))) (b := true) ?_ fun i hi => ?_).trans (by rw [Bool.and_true]; rfl)
  ·rw [eK.cH]; (try dsimp +instances only [gr, gi, gl, gb, gt, ui, ul, ub, ut, ab, ln, ae, aa.i, aa.l, aa.b, aa.t, aa.ij, aa.lj, aa.bj, aa.tj]); rw [aQ (Nat.le_refl _)]; rfl
  ·rw [eK.cH]; (try dsimp +instances only [gr, gi, gl, gb, gt, ui, ul, ub, ut, ab, ln, ae, aa.i, aa.l, aa.b, aa.t, aa.ij, aa.lj, aa.bj, aa.tj]); rw [aR hi, bg, bg, decide_eq_true hi, decide_eq_true (by omega), bt (n := i) (by omega), Int.toNat_natCast]
   cases decide (((s.getD i []).getD 0 U0).toInt = (((ay.getD i []).getD 4 U0).bT.length : Int)) <;> rfl
 ·rw [eK.ah]; (try dsimp +instances only [gr, gi, gl, gb, gt, ui, ul, ub, ut, ab, ln, ae, aa.i, aa.l, aa.b, aa.t, aa.ij, aa.lj, aa.bj, aa.tj]); rw [aR hi, bg, decide_eq_true hi, bt (n := i) (by omega), Int.toNat_natCast, dZ]
  unfold ri nE
  cases hw : within ((es.getD i []).getD 3 U0).toInt 1 ay.length
  ·rfl
  ·obtain ⟨k, h1, h2, h3, h4⟩ := Da cz hw
   simp only [Option.bind_some, aa.tt, List.getD_cons_zero, U.kh, Bool.not_true, cond_false, h3, bg, decide_eq_true h2, cond_true, Int.toNat_natCast, Bool.true_and, decide_eq_true (show k < s.length by omega)]
   rw [WW _ _ _ _ _ _ _ _ _ _ _ _ _ _ _ _ _ _ _ _ _ _ ho]
   unfold Ho
   rw [h4]
   cases used aB (ay.getD k []) (es.getD i []) <;> rfl
theorem M7 (a0 : Int) (a1 a2 a3 a4 : List (List U)) (a5 : Int) (a6 a7 a8 a9 : List (List U)) (az : Int) (aw a12 aF aC aG aB : List (List U)) (aL : Int) (ay aJ : List (List U)) (h : WR ao.ct 167 a9) (hc : ai a9 ≤ 1048576) (ho : aB.length ≤ 1048576) (cz : ay.length ≤ 1048576) : cU.c a0 a1 a2 a3 a4 a5 a6 a7 a8 a9 az aw a12 aF aC aG aB aL ay aJ = Db a9 aB ay := by
 have hl := bl a9
 have e1 : IntKind.i64.wrap ((ay.length : Int) + 1) = ((ay.length + 1 : Nat) : Int) := bt (by omega)
 rw [cU.eq]; (try dsimp +instances only [gr, gi, gl, gb, gt, ui, ul, ub, ut, ab, ln, ae, aa.i, aa.l, aa.b, aa.t, aa.ij, aa.lj, aa.bj, aa.tj]); rw [e1, Int.toNat_natCast, decide_eq_true (by omega), cu (by omega) (by omega)]
 show cU.l0 0 a0 a1 a2 a3 a4 a5 a6 a7 a8 a9 az aw a12 aF aC aG aB aL ay aJ (List.replicate (ay.length + 1) [U.int 0]) = _
 have e2 : Db a9 aB ay = iM (tm aB ay) (fun s => rB (tw ay s.tail)) (rB false) (flat a9) ([U.int 0] :: List.replicate ay.length [U.int 0]) := (run_eq cz (fun z s => rfl) _ _ _).symm
 rw [e2, ← List.replicate_succ]
 refine Sz (l0 := fun i s => cU.l0 i a0 a1 a2 a3 a4 a5 a6 a7 a8 a9 az aw a12 aF aC aG aB aL ay aJ s) (st := tm aB ay) (R := fun s => rB (tw ay s.tail)) (F := rB false) (I := fun s => s.length = ay.length + 1) (ts := a9) (f := fun x => (x.getD 0 U0).bT) (fun s hs => ?_) (fun i hi ih s hs => ?_) _ (by simp)
 ·rw [cU.ah]; (try dsimp +instances only [gr, gi, gl, gb, gt, ui, ul, ub, ut, ab, ln, ae, aa.i, aa.l, aa.b, aa.t, aa.ij, aa.lj, aa.bj, aa.tj]); rw [aQ (Nat.le_refl _)]
  refine (dr (l0 := fun i => cU.l2 i a0 a1 a2 a3 a4 a5 a6 a7 a8 a9 az aw a12 aF aC aG aB aL ay aJ s) (n := ay.length) (p := fun i => decide (((s.tail.getD i []).getD 0 U0).toInt = (((ay.getD i []).getD 4 U0).bT.length : Int))) (b := true) ?_ fun i hi => ?_).trans (by rw [Bool.and_true]; rfl)
  ·rw [cU.qU]; (try dsimp +instances only [gr, gi, gl, gb, gt, ui, ul, ub, ut, ab, ln, ae, aa.i, aa.l, aa.b, aa.t, aa.ij, aa.lj, aa.bj, aa.tj]); rw [aQ (Nat.le_refl _)]; rfl
  ·have e3 : s.tail.getD i [] = s.getD (i + 1) [] := by
    cases s with
    | nil => rfl
    | cons a b => rfl
   rw [cU.qU]; (try dsimp +instances only [gr, gi, gl, gb, gt, ui, ul, ub, ut, ab, ln, ae, aa.i, aa.l, aa.b, aa.t, aa.ij, aa.lj, aa.bj, aa.tj]); rw [aR hi, bt (n := i) (by omega), bg, bg, decide_eq_true hi, decide_eq_true (by omega), Int.toNat_natCast, Int.toNat_natCast, e3]
   cases decide (((s.getD (i + 1) []).getD 0 U0).toInt = (((ay.getD i []).getD 4 U0).bT.length : Int)) <;> rfl
 ·obtain ⟨l, av, hw⟩ := vM (h.2 _ (aZ hi (z := [])))
  have h1 := Ay hi av
  have h2 := bl l
  rw [cU.ah]; (try dsimp +instances only [gr, gi, gl, gb, gt, ui, ul, ub, ut, ab, ln, ae, aa.i, aa.l, aa.b, aa.t, aa.ij, aa.lj, aa.bj, aa.tj]); rw [aR hi, av]
  refine KP (l1 := fun j s => cU.l1 i j a0 a1 a2 a3 a4 a5 a6 a7 a8 a9 az aw a12 aF aC aG aB aL ay aJ s) (st := tm aB ay) (R := fun s => rB (tw ay s.tail)) (F := rB false) (I := fun s => s.length = ay.length + 1) (l := l) (rest := (a9.drop (i + 1)).flatMap fun x => (x.getD 0 U0).bT) (fun e s s' hs he => ?_) (fun s hs => ?_) (fun j hj s hs => ?_) s hs
  ·unfold tm at he
   cases hk : decide (v0 e = 2)
   ·rw [hk] at he; cases he; exact hs
   ·cases bW : nE aB ay e
    ·rw [hk, bW] at he; cases he
    ·rw [hk, bW] at he; cases he; rw [Ms]; exact hs
  ·rw [cU.cH]; (try dsimp +instances only [gr, gi, gl, gb, gt, ui, ul, ub, ut, ab, ln, ae, aa.i, aa.l, aa.b, aa.t, aa.ij, aa.lj, aa.bj, aa.tj]); rw [bg, decide_eq_true hi, Int.toNat_natCast, av]
   show (bif decide ((l.length : Int) < (l.length : Int)) then _ else _) = _
   rw [aQ (Nat.le_refl _), bt (n := i) (by omega)]
   exact ih s hs
  ·rw [cU.cH]; (try dsimp +instances only [gr, gi, gl, gb, gt, ui, ul, ub, ut, ab, ln, ae, aa.i, aa.l, aa.b, aa.t, aa.ij, aa.lj, aa.bj, aa.tj]); rw [bg, decide_eq_true hi, Int.toNat_natCast, av]
   show (bif decide ((j : Int) < (l.length : Int)) then bif an (j : Int) l.length then _ else _ else _) = _
   rw [aR hj, bg, decide_eq_true hj, bt (n := j) (by omega)]
   show (bif !decide (v0 (l.getD j []) = 2) then _ else ((tV.c a0 a1 a2 a3 a4 a5 a6 a7 a8 a9 az aw a12 aF aC aG aB aL ay aJ ((l.getD j []).getD 0 U0).toInt ((l.getD j []).getD 1 U0).toInt ((l.getD j []).getD 2 U0).toInt ((l.getD j []).getD 3 U0).toInt ((l.getD j []).getD 4 U0).toInt ((l.getD j []).getD 5 U0).toInt ((l.getD j []).getD 6 U0).toInt ((l.getD j []).getD 7 U0).toInt ((l.getD j []).getD 8 U0).toInt).bind _)) = _
   rw [WV _ _ _ _ _ _ _ _ _ _ _ _ _ _ _ _ _ _ _ _ _ ho cz]
   unfold tm
   cases decide (v0 (l.getD j []) = 2)
   ·rfl
   cases bW : nE aB ay (l.getD j [])
   ·rfl
   ·have hw : within ((l.getD j []).getD 3 U0).toInt 1 ay.length = true := by unfold nE at bW; rw [Bool.and_eq_true] at bW; exact bW.1
    obtain ⟨k, h1, h2, h3, h4⟩ := Da cz hw
    show (bif an ((l.getD j []).getD 3 U0).toInt s.length then bif an ((l.getD j []).getD 3 U0).toInt s.length then _ else _ else _) = _
    rw [h1, bg, decide_eq_true (by omega), Int.toNat_natCast]
    have e4 : (l.getD j []).getD 3 U0 = (l.getD j []).getD 3 U0 := rfl
    show cU.l1 i ((j + 1 : Nat) : Int) a0 a1 a2 a3 a4 a5 a6 a7 a8 a9 az aw a12 aF aC aG aB aL ay aJ (bJ s ((l.getD j []).getD 3 U0).toInt.toNat 0 [U.int (IntKind.i64.wrap (((s.getD ((l.getD j []).getD 3 U0).toInt.toNat []).getD 0 U0).toInt + 1))]) = cU.l1 i ((j + 1 : Nat) : Int) a0 a1 a2 a3 a4 a5 a6 a7 a8 a9 az aw a12 aF aC aG aB aL ay aJ (bump s (((k + 1 : Nat) : Int)).toNat)
    rw [h1]; rfl
theorem Hs {st : List U → List (List U) → Option (List (List U))} {q : List (List U) → Bool} : ∀ (es s : List (List U)), ∃ b, iM st (fun s => rB (q s)) (rB false) es s = rB b
 | [], s => ⟨_, rfl⟩
 | e :: es, s => by
  unfold iM
  cases st e s with
  | none => exact ⟨false, rfl⟩
  | some s' => exact Hs es s'
end Go.Proofs.YtbanfmadialnkaaGreat.Eng
/- half -/
