/- Emergencies: what the reference's and the program's functions compute. -/
import Derived.Test.YtbanfmadialnkaaGreatPA2
import Derived.Test.YtbanfmadialnkaaGreatH
import Derived.Test.YtbanfmadialnkaaGreatPEm
namespace Go.Proofs.YtbanfmadialnkaaGreat.Eng
open Go.RowKit
set_option linter.unusedVariables false
set_option linter.unusedSimpArgs false
set_option linter.unusedSectionVars false
set_option maxRecDepth 100000
variable [Sm]
/- instances too -/
def jQ (a b : Int) : Int := if within a 0 10000 && within b 0 10000 then min (a + b) 10000 else 0
theorem Wy (a b : Int) : rG.c a b = rI (jQ a b) := by
 rw [rG.eq]; (try dsimp +instances only [gr, gi, gl, gb, gt, ui, ul, ub, ut, ab, ln, ae, aa.i, aa.l, aa.b, aa.t, aa.ij, aa.lj, aa.bj, aa.tj]); rw [jj, jj]
 show (bif !(within a 0 10000) then _ else bif !(within b 0 10000) then _ else _) = _
 unfold jQ
 cases h : within a 0 10000
 ·rfl
 ·cases h' : within b 0 10000
  ·rfl
  ·obtain ⟨h1, h2⟩ := dV h
   obtain ⟨h3, h4⟩ := dV h'
   rw [pZ.eq]; (try dsimp +instances only [gr, gi, gl, gb, gt, ui, ul, ub, ut, ab, ln, ae, aa.i, aa.l, aa.b, aa.t, aa.ij, aa.lj, aa.bj, aa.tj]); rw [sX (by omega) (by omega)]
   by_cases c : a + b < 10000
   ·rw [decide_eq_true c]; show rI (a + b) = rI (min (a + b) 10000); rw [Int.min_eq_left (by omega)]
   ·rw [decide_eq_false c]; show rI 10000 = rI (min (a + b) 10000); rw [Int.min_eq_right (by omega)]
theorem Wz (a b : Int) : rH.c a b = rI (jQ a b) := by
 rw [rH.eq]; (try dsimp +instances only [gr, gi, gl, gb, gt, ui, ul, ub, ut, ab, ln, ae, aa.i, aa.l, aa.b, aa.t, aa.ij, aa.lj, aa.bj, aa.tj]); rw [lf, dZ]
 show (bif !(within a 0 10000) then _ else bif !(within b 0 10000) then _ else _) = _
 unfold jQ
 cases h : within a 0 10000
 ·rfl
 ·cases h' : within b 0 10000
  ·rfl
  ·obtain ⟨h1, h2⟩ := dV h
   obtain ⟨h3, h4⟩ := dV h'
   rw [sX (by omega) (by omega)]; rfl
def k8 (xs ys : List (List U)) : Bool := xs.all fun x => has ys (v0 x)
theorem WA (xs ys : List (List U)) (hx : xs.length ≤ 4611686018427387904) (hy : ys.length ≤ 4611686018427387904) : jo.c xs ys = rB (k8 xs ys) := by
 rw [jo.eq]; (try dsimp +instances only [gr, gi, gl, gb, gt, ui, ul, ub, ut, ab, ln, ae, aa.i, aa.l, aa.b, aa.t, aa.ij, aa.lj, aa.bj, aa.tj])
 refine (dr (l0 := fun i => jo.l0 xs ys i) (n := xs.length) (p := fun i => has ys (v0 (xs.getD i []))) (b := true) ?_ fun i hi => ?_).trans (by rw [Bool.and_true, nF xs [] fun x => has ys (v0 x)]; rfl)
 ·rw [jo.ah]; (try dsimp +instances only [gr, gi, gl, gb, gt, ui, ul, ub, ut, ab, ln, ae, aa.i, aa.l, aa.b, aa.t, aa.ij, aa.lj, aa.bj, aa.tj]); rw [aQ (Nat.le_refl _)]; rfl
 ·rw [jo.ah]; (try dsimp +instances only [gr, gi, gl, gb, gt, ui, ul, ub, ut, ab, ln, ae, aa.i, aa.l, aa.b, aa.t, aa.ij, aa.lj, aa.bj, aa.tj]); rw [aR hi, bg, decide_eq_true hi, bt (by omega), Int.toNat_natCast, wk _ hy]
  show (bif !(has ys _) then _ else _) = _
  cases has ys (v0 (xs.getD i [])) <;> rfl
theorem WB (xs a1 ys : List (List U)) (a3 : Int) (hx : xs.length ≤ 4611686018427387904) (hy : ys.length ≤ 4611686018427387904) : rJ.c xs a1 ys a3 = rB (!(k8 xs ys)) := by
 have h : lL.c xs a1 ys a3 = rI (pos (fun i => !(has ys (v0 (xs.getD i [])))) xs.length 0) := by
  rw [lL.eq]; (try dsimp +instances only [gr, gi, gl, gb, gt, ui, ul, ub, ut, ab, ln, ae, aa.i, aa.l, aa.b, aa.t, aa.ij, aa.lj, aa.bj, aa.tj])
  refine kj (l0 := fun i => lL.l0 xs a1 ys a3 _ i) (n := xs.length) (p := fun i => !(has ys (v0 (xs.getD i [])))) ?_ fun i hi => ?_
  ·rw [lL.ah]; (try dsimp +instances only [gr, gi, gl, gb, gt, ui, ul, ub, ut, ab, ln, ae, aa.i, aa.l, aa.b, aa.t, aa.ij, aa.lj, aa.bj, aa.tj]); rw [aQ (Nat.le_refl _)]; rfl
  ·rw [lL.ah]; (try dsimp +instances only [gr, gi, gl, gb, gt, ui, ul, ub, ut, ab, ln, ae, aa.i, aa.l, aa.b, aa.t, aa.ij, aa.lj, aa.bj, aa.tj]); rw [aR hi, bg, decide_eq_true hi, bt (by omega), Int.toNat_natCast, Bo.eq, A6 _ hy]; rfl
 rw [rJ.eq]; (try dsimp +instances only [gr, gi, gl, gb, gt, ui, ul, ub, ut, ab, ln, ae, aa.i, aa.l, aa.b, aa.t, aa.ij, aa.lj, aa.bj, aa.tj]); rw [h]
 show rB (decide (pos _ _ _ ≥ 0)) = _
 rw [Dx, ← List.range_eq_range', ov xs [] fun x => !(has ys (v0 x))]
 simp only [k8, List.all_eq_not_any_not, Bool.not_not]
/-- Unsettled, of a person. -/
def e5 (p : Int) (x : List U) : Bool := decide ((x.getD 1 U0).toInt = p) && !(x.getD 5 U0).toBool
def vN (xs : List (List U)) (p : Int) : List (List U) := (xs.filter (e5 p)).map fun x => [.int (v0 x)]
theorem WC (xs : List (List U)) (hx : xs.length ≤ 1048576) (p : Int) : ix.c xs p = some ⟨[[.af (vN xs p)]], []⟩ := by
 rw [ix.eq]; (try dsimp +instances only [gr, gi, gl, gb, gt, ui, ul, ub, ut, ab, ln, ae, aa.i, aa.l, aa.b, aa.t, aa.ij, aa.lj, aa.bj, aa.tj])
 refine (sY (l0 := fun i s => ix.l0 xs p i s) (n := xs.length) (p := fun i => e5 p (xs.getD i [])) (row := fun i => [.int (v0 (xs.getD i []))]) (R := fun s => some ⟨[[.af s]], []⟩) (fun s hs => ?_) fun i hi s hs => ?_).trans (by rw [KQ xs [] (e5 p) fun x => [U.int (v0 x)]]; rfl)
 ·rw [ix.ah]; (try dsimp +instances only [gr, gi, gl, gb, gt, ui, ul, ub, ut, ab, ln, ae, aa.i, aa.l, aa.b, aa.t, aa.ij, aa.lj, aa.bj, aa.tj]); rw [aQ (Nat.le_refl _)]; rfl
 ·rw [ix.ah]; (try dsimp +instances only [gr, gi, gl, gb, gt, ui, ul, ub, ut, ab, ln, ae, aa.i, aa.l, aa.b, aa.t, aa.ij, aa.lj, aa.bj, aa.tj]); rw [aR hi, bg, decide_eq_true hi, bt (by omega), Int.toNat_natCast, cu (by simp; omega) (by simp; omega)]
  unfold e5
  cases decide (((xs.getD i []).getD 1 U0).toInt = p) <;> cases ((xs.getD i []).getD 5 U0).toBool <;> rfl
theorem WD (xs : List (List U)) (hx : xs.length ≤ 1048576) (p : Int) : iA.c xs p = some ⟨[[.af (vN xs p)]], []⟩ := by
 rw [iA.eq]; (try dsimp +instances only [gr, gi, gl, gb, gt, ui, ul, ub, ut, ab, ln, ae, aa.i, aa.l, aa.b, aa.t, aa.ij, aa.lj, aa.bj, aa.tj])
 refine (sY (l0 := fun i s => iA.l0 p xs _ i s) (n := xs.length) (p := fun i => e5 p (xs.getD i [])) (row := fun i => [.int (v0 (xs.getD i []))]) (R := fun s => some ⟨[[.af s]], []⟩) (fun s hs => ?_) fun i hi s hs => ?_).trans (by rw [KQ xs [] (e5 p) fun x => [U.int (v0 x)]]; rfl)
 ·rw [iA.ah]; (try dsimp +instances only [gr, gi, gl, gb, gt, ui, ul, ub, ut, ab, ln, ae, aa.i, aa.l, aa.b, aa.t, aa.ij, aa.lj, aa.bj, aa.tj]); rw [aQ (Nat.le_refl _)]; rfl
 ·rw [iA.ah]; (try dsimp +instances only [gr, gi, gl, gb, gt, ui, ul, ub, ut, ab, ln, ae, aa.i, aa.l, aa.b, aa.t, aa.ij, aa.lj, aa.bj, aa.tj]); rw [aR hi, bg, decide_eq_true hi, bt (by omega), Int.toNat_natCast, cu (by simp; omega) (by simp; omega)]
  unfold e5
  cases decide (((xs.getD i []).getD 1 U0).toInt = p) <;> cases ((xs.getD i []).getD 5 U0).toBool <;> rfl
/-- Whether one is behind the one before. -/
def Ax (xs : List (List U)) (i : Nat) : Bool := !(decide (0 < i) && decide (v0 (xs.getD (i - 1) []) ≥ v0 (xs.getD i [])))
def mV (xs : List (List U)) (lo hi : Int) : Bool := (List.range xs.length).all fun i => within (v0 (xs.getD i [])) lo hi && Ax xs i
theorem C9 {i : Nat} (h : i ≤ 4611686018427387904) (h0 : 0 < i) : IntKind.i64.wrap ((i : Int) - 1) = ((i - 1 : Nat) : Int) := by rw [sX (by omega) (by omega)]; omega
theorem Mj (xs : List (List U)) (hx : xs.length ≤ 1048576) (lo hi : Int) : eT.c xs lo hi = rB (mV xs lo hi) := by
 rw [eT.eq]; (try dsimp +instances only [gr, gi, gl, gb, gt, ui, ul, ub, ut, ab, ln, ae, aa.i, aa.l, aa.b, aa.t, aa.ij, aa.lj, aa.bj, aa.tj])
 refine (dr (l0 := fun i => eT.l0 xs lo hi xs _ i) (n := xs.length) (p := fun i => within (v0 (xs.getD i [])) lo hi && Ax xs i) (b := true) ?_ fun i dS => ?_).trans (by rw [Bool.and_true]; rfl)
 ·rw [eT.ah]; (try dsimp +instances only [gr, gi, gl, gb, gt, ui, ul, ub, ut, ab, ln, ae, aa.i, aa.l, aa.b, aa.t, aa.ij, aa.lj, aa.bj, aa.tj]); rw [aQ (Nat.le_refl _)]; rfl
 ·rw [eT.ah]; (try dsimp +instances only [gr, gi, gl, gb, gt, ui, ul, ub, ut, ab, ln, ae, aa.i, aa.l, aa.b, aa.t, aa.ij, aa.lj, aa.bj, aa.tj]); rw [aR dS, bg, decide_eq_true dS, bt (by omega), Int.toNat_natCast, dZ]
  show (bif !(within (v0 (xs.getD i [])) lo hi) then _ else _) = _
  cases within (v0 (xs.getD i [])) lo hi
  ·rfl
  ·unfold Ax
   by_cases h0 : 0 < i
   ·rw [decide_eq_true (by omega : (i : Int) > 0), C9 (by omega) h0, bg, decide_eq_true (by omega), decide_eq_true h0]
    cases h : decide (v0 (xs.getD (i - 1) []) ≥ v0 (xs.getD i [])) <;> simp only [Int.toNat_natCast, cond_true, h] <;> rfl
   ·rw [decide_eq_false (by omega : ¬ (i : Int) > 0), decide_eq_false h0]; rfl
theorem Ml (xs : List (List U)) (hx : xs.length ≤ 1048576) (k : Int) (h1 : 1 ≤ k) (h4 : k ≤ 4) : ju.c xs k = rB (mV xs (10 * k) (10 * k + 9)) := by
 rw [ju.eq]; (try dsimp +instances only [gr, gi, gl, gb, gt, ui, ul, ub, ut, ab, ln, ae, aa.i, aa.l, aa.b, aa.t, aa.ij, aa.lj, aa.bj, aa.tj])
 have e : ∀ v, eL v k = within v (10 * k) (10 * k + 9) := by
  intro v
  unfold eL within
  rw [Bool.eq_iff_iff]
  simp only [Bool.and_eq_true, decide_eq_true_eq]
  by_cases hv : 0 ≤ v
  ·rw [Int.tdiv_eq_ediv_of_nonneg hv]; omega
  ·omega
 refine (dr (l0 := fun i => ju.l0 xs k i) (n := xs.length) (p := fun i => within (v0 (xs.getD i [])) (10 * k) (10 * k + 9) && Ax xs i) (b := true) ?_ fun i dS => ?_).trans (by rw [Bool.and_true]; rfl)
 ·rw [ju.ah]; (try dsimp +instances only [gr, gi, gl, gb, gt, ui, ul, ub, ut, ab, ln, ae, aa.i, aa.l, aa.b, aa.t, aa.ij, aa.lj, aa.bj, aa.tj]); rw [aQ (Nat.le_refl _)]; rfl
 ·rw [ju.ah]; (try dsimp +instances only [gr, gi, gl, gb, gt, ui, ul, ub, ut, ab, ln, ae, aa.i, aa.l, aa.b, aa.t, aa.ij, aa.lj, aa.bj, aa.tj]); rw [aR dS, bg, decide_eq_true dS, bt (by omega), Int.toNat_natCast, tF, e]
  show (bif !(within (v0 (xs.getD i [])) (10 * k) (10 * k + 9)) then _ else _) = _
  cases within (v0 (xs.getD i [])) (10 * k) (10 * k + 9)
  ·rfl
  ·unfold Ax
   by_cases h0 : 0 < i
   ·rw [decide_eq_true (by omega : (i : Int) > 0), C9 (by omega) h0, bg, decide_eq_true (by omega), decide_eq_true h0]
    cases h : decide (v0 (xs.getD (i - 1) []) ≥ v0 (xs.getD i [])) <;> simp only [Int.toNat_natCast, cond_true, h] <;> rfl
   ·rw [decide_eq_false (by omega : ¬ (i : Int) > 0), decide_eq_false h0]; rfl
def oe (a b : List (List U)) (s : Int) : Bool := mV a 10 19 && (mV b 40 49 && within s 0 10)
theorem WE (a b : List (List U)) (ha : a.length ≤ 1048576) (hb : b.length ≤ 1048576) (s : Int) : xS.c a b s = rB (oe a b s) := by
 rw [xS.eq]; (try dsimp +instances only [gr, gi, gl, gb, gt, ui, ul, ub, ut, ab, ln, ae, aa.i, aa.l, aa.b, aa.t, aa.ij, aa.lj, aa.bj, aa.tj]); rw [Ml a ha 1 (by omega) (by omega), Ml b hb 4 (by omega) (by omega), eD]
 unfold oe
 show (bif mV a 10 19 then bif mV b 40 49 then _ else _ else _) = _
 cases mV a 10 19 <;> cases mV b 40 49 <;> rfl
theorem WG (a b : List (List U)) (ha : a.length ≤ 1048576) (hb : b.length ≤ 1048576) (s : Int) : xT.c a b s = rB (oe a b s) := by
 rw [xT.eq]; (try dsimp +instances only [gr, gi, gl, gb, gt, ui, ul, ub, ut, ab, ln, ae, aa.i, aa.l, aa.b, aa.t, aa.ij, aa.lj, aa.bj, aa.tj]); rw [Mj a ha, Mj b hb, dZ]
 unfold oe
 show (bif mV a 10 19 then bif mV b 40 49 then _ else _ else _) = _
 cases mV a 10 19 <;> cases mV b 40 49 <;> rfl
/-- What is asked of one emergency, but for the debts. -/
def rf (ps os : List (List U)) (sp : Int) (xs : List (List U)) (i : Nat) : Bool :=
 decide (v0 (xs.getD i []) = ((i + 1 : Nat) : Int)) && (has ps ((xs.getD i []).getD 1 U0).toInt && (within ((xs.getD i []).getD 2 U0).toInt 0 10000 && (!(decide (0 < i) && decide (((xs.getD (i - 1) []).getD 2 U0).toInt > ((xs.getD i []).getD 2 U0).toInt)) && (decide (((xs.getD i []).getD 3 U0).toInt = jQ ((xs.getD i []).getD 2 U0).toInt sp) && k8 ((xs.getD i []).getD 4 U0).bT os))))
theorem Mm (xs : List (List U)) (p : Int) : (vN xs p).length = xs.countP (e5 p) := by rw [vN, List.length_map, List.countP_eq_length_filter]
def Hm (ps os : List (List U)) (sp : Int) (xs : List (List U)) : Bool := ((List.range xs.length).all fun i => rf ps os sp xs i && decide (xs.countP (e5 ((xs.getD i []).getD 1 U0).toInt) ≤ 1)) && (oe ps os sp && decide ((xs.length : Int) ≤ 8))
def wh (ps os : List (List U)) (sp : Int) (xs : List (List U)) : Bool := ((List.range xs.length).all fun i => rf ps os sp xs i && (((xs.getD i []).getD 5 U0).toBool || decide ((xs.take i).countP (e5 ((xs.getD i []).getD 1 U0).toInt) = 0))) && (oe ps os sp && decide ((xs.length : Int) ≤ 8))
theorem Ns (ps os : List (List U)) (sp : Int) (xs : List (List U)) (h : WR ao.ct 180 xs) (hc : ai xs ≤ 1048576) (hp : ps.length ≤ 1048576) (ho : os.length ≤ 1048576) : iT.c ps os sp xs = rB (Hm ps os sp xs) := by
 have hl := bl xs
 rw [iT.eq]; (try dsimp +instances only [gr, gi, gl, gb, gt, ui, ul, ub, ut, ab, ln, ae, aa.i, aa.l, aa.b, aa.t, aa.ij, aa.lj, aa.bj, aa.tj])
 refine dr (l0 := fun i => iT.l0 xs i ps os sp) (n := xs.length) ?_ fun i hi => ?_
 ·rw [iT.ah]; (try dsimp +instances only [gr, gi, gl, gb, gt, ui, ul, ub, ut, ab, ln, ae, aa.i, aa.l, aa.b, aa.t, aa.ij, aa.lj, aa.bj, aa.tj]); rw [aQ (Nat.le_refl _), WE _ _ hp ho]
  show (bif oe ps os sp then _ else _) = _
  cases oe ps os sp <;> rfl
 ·obtain ⟨a, b, c, d, u, e, hr, hu⟩ := G6 (h.2 _ (aZ hi (z := [])))
  have WH := Mn hi hr
  rw [iT.ah]; (try dsimp +instances only [gr, gi, gl, gb, gt, ui, ul, ub, ut, ab, ln, ae, aa.i, aa.l, aa.b, aa.t, aa.ij, aa.lj, aa.bj, aa.tj]); rw [aR hi, bg, decide_eq_true hi, bt (by omega), Int.toNat_natCast]
  unfold rf v0
  rw [hr]
  show (bif !decide (a = _) then _ else (ga.c ps b).bind _) = bif decide (a = _) && (has ps b && (within c 0 10000 && (_ && (decide (d = jQ c sp) && k8 u os)))) && _ then _ else _
  rw [wk _ (by omega)]
  show (bif !decide (a = _) then _ else bif !(has ps b) then _ else (cA.c c).bind _) = _
  rw [jj]
  show (bif !decide (a = _) then _ else bif !(has ps b) then _ else bif !(within c 0 10000) then _ else _) = _
  cases decide (a = ((i + 1 : Nat) : Int))
  ·rfl
  cases has ps b
  ·rfl
  cases within c 0 10000
  ·rfl
  have tail : ((rG.c c sp).bind fun r5 => bif !decide (d = (r5.u 0 0).toInt) then (some ⟨[[.bool false]], []⟩) else ((jo.c u os).bind fun r6 => bif !(r6.u 0 0).toBool then (some ⟨[[.bool false]], []⟩) else ((ix.c xs b).bind fun r7 => bif decide ((↑(r7.u 0 0).bT.length : Int) > (1 : Int)) then (some ⟨[[.bool false]], []⟩) else (iT.l0 xs ((i + 1 : Nat) : Int) ps os sp)))) = bif decide (d = jQ c sp) && k8 u os && decide (xs.countP (e5 b) ≤ 1) then iT.l0 xs ((i + 1 : Nat) : Int) ps os sp else rB false := by
   rw [Wy, WA _ _ (by omega) (by omega), WC _ (by omega)]
   show (bif !decide (d = jQ c sp) then _ else bif !(k8 u os) then _ else bif decide (((vN xs b).length : Int) > 1) then _ else _) = _
   rw [Mm]
   cases decide (d = jQ c sp)
   ·rfl
   cases k8 u os
   ·rfl
   by_cases hd : xs.countP (e5 b) ≤ 1
   ·rw [decide_eq_true hd, decide_eq_false (by omega)]; rfl
   ·rw [decide_eq_false hd, decide_eq_true (by omega)]; rfl
  by_cases h0 : 0 < i
  ·rw [decide_eq_true (by omega : (i : Int) > 0), C9 (by omega) h0, bg, decide_eq_true (by omega), decide_eq_true h0]
   show (bif decide (((xs.getD (i - 1) []).getD 2 U0).toInt > c) then _ else _) = bif (!decide (((xs.getD (i - 1) []).getD 2 U0).toInt > c) && (decide (d = jQ c sp) && k8 u os)) && _ then _ else _
   cases decide (((xs.getD (i - 1) []).getD 2 U0).toInt > c)
   ·exact tail
   ·rfl
  ·rw [decide_eq_false (by omega : ¬ (i : Int) > 0), decide_eq_false h0]
   exact tail
theorem NF (ps os : List (List U)) (sp : Int) (xs : List (List U)) (h : WR ao.ct 180 xs) (hc : ai xs ≤ 1048576) (hp : ps.length ≤ 1048576) (ho : os.length ≤ 1048576) : lE.c ps os sp xs = rB (wh ps os sp xs) := by
 have hl := bl xs
 rw [lE.eq]; (try dsimp +instances only [gr, gi, gl, gb, gt, ui, ul, ub, ut, ab, ln, ae, aa.i, aa.l, aa.b, aa.t, aa.ij, aa.lj, aa.bj, aa.tj])
 refine dr (l0 := fun i => lE.l0 xs xs _ i ps os sp) (n := xs.length) ?_ fun i hi => ?_
 ·rw [lE.ah]; (try dsimp +instances only [gr, gi, gl, gb, gt, ui, ul, ub, ut, ab, ln, ae, aa.i, aa.l, aa.b, aa.t, aa.ij, aa.lj, aa.bj, aa.tj]); rw [aQ (Nat.le_refl _), WG _ _ hp ho]
  show (bif oe ps os sp then _ else _) = _
  cases oe ps os sp <;> rfl
 ·obtain ⟨a, b, c, d, u, e, hr, hu⟩ := G6 (h.2 _ (aZ hi (z := [])))
  have WH := Mn hi hr
  have tC : (xs.take i).length = i := by rw [List.length_take]; omega
  have e0 : Int.toNat ((i : Int) - 0) = i := by omega
  have key : uc.c ps os sp a b c d u e (xs.take i) = rB (rf ps os sp xs i && (e || decide ((xs.take i).countP (e5 b) = 0))) := by
   rw [uc.eq]; (try dsimp +instances only [gr, gi, gl, gb, gt, ui, ul, ub, ut, ab, ln, ae, aa.i, aa.l, aa.b, aa.t, aa.ij, aa.lj, aa.bj, aa.tj]); simp only [tC]; rw [bt (by omega), A6 _ (by omega), lf]
   unfold rf v0
   rw [hr]
   show (bif !decide (a = _) then _ else bif !(has ps b) then _ else bif !(within c 0 10000) then _ else _) = rB (decide (a = _) && (has ps b && (within c 0 10000 && (_ && (decide (d = jQ c sp) && k8 u os)))) && _)
   cases decide (a = ((i + 1 : Nat) : Int))
   ·rfl
   cases has ps b
   ·rfl
   cases within c 0 10000
   ·rfl
   have tail : ((rH.c c sp).bind fun r5 => bif !decide (d = (r5.u 0 0).toInt) then (some ⟨[[.bool false]], []⟩) else ((rJ.c u ps os sp).bind fun r6 => bif (r6.u 0 0).toBool then (some ⟨[[.bool false]], []⟩) else (bif e then (some ⟨[[.bool true]], []⟩) else ((iA.c (xs.take i) b).bind fun r7 => some ⟨[[.bool (decide ((↑(r7.u 0 0).bT.length : Int) = (0 : Int)))]], []⟩)))) = rB (decide (d = jQ c sp) && k8 u os && (e || decide ((xs.take i).countP (e5 b) = 0))) := by
    rw [Wz, WB _ _ _ _ (by omega) (by omega), WD _ (by omega)]
    show (bif !decide (d = jQ c sp) then _ else bif !(k8 u os) then _ else bif e then _ else rB (decide (((vN (xs.take i) b).length : Int) = 0))) = _
    rw [Mm]
    cases decide (d = jQ c sp)
    ·rfl
    cases k8 u os
    ·rfl
    cases e
    ·show rB _ = rB _
     congr 1
     show decide _ = decide _
     rw [decide_eq_decide]; omega
    ·rfl
   by_cases h0 : 0 < i
   ·have e1 : (xs.take i).getD (i - 1) [] = xs.getD (i - 1) [] := by
     rw [List.getD_eq_getElem?_getD, List.getD_eq_getElem?_getD, List.getElem?_take, if_pos (by omega)]
    rw [decide_eq_true (by omega : (i : Int) > 0), C9 (by omega) h0, bg, decide_eq_true (by omega), decide_eq_true h0, Int.toNat_natCast, e1]
    show (bif decide (((xs.getD (i - 1) []).getD 2 U0).toInt > c) then _ else _) = rB ((!decide (((xs.getD (i - 1) []).getD 2 U0).toInt > c) && (decide (d = jQ c sp) && k8 u os)) && _)
    cases decide (((xs.getD (i - 1) []).getD 2 U0).toInt > c)
    ·exact tail
    ·rfl
   ·rw [decide_eq_false (by omega : ¬ (i : Int) > 0), decide_eq_false h0]
    exact tail
  rw [lE.ah]; (try dsimp +instances only [gr, gi, gl, gb, gt, ui, ul, ub, ut, ab, ln, ae, aa.i, aa.l, aa.b, aa.t, aa.ij, aa.lj, aa.bj, aa.tj]); rw [aR hi, bg, decide_eq_true hi, bt (by omega), Int.toNat_natCast, decide_eq_true (by omega), e0, hr]
  show ((uc.c ps os sp a b c d u e (xs.take i)).bind _) = bif rf ps os sp xs i && (e || decide ((xs.take i).countP (e5 b) = 0)) then _ else _
  rw [key]
  show (bif !(rf ps os sp xs i && _) then _ else _) = _
  cases (rf ps os sp xs i && (e || decide ((xs.take i).countP (e5 b) = 0))) <;> rfl
/-- At most one debt each: whether all are counted, or those before each. -/
theorem Mo (q : Int → List U → Bool) (ti : List U → Int) (un : List U → Bool) (hq : ∀ p x, q p x = (decide (ti x = p) && un x)) : ∀ xs : List (List U), (∀ p, xs.countP (q p) ≤ 1) ↔ xs.Pairwise fun a b => ¬ (un a = true ∧ un b = true ∧ ti a = ti b)
 | [] => by simp
 | x :: xs => by
  rw [List.pairwise_cons, ← Mo q ti un hq xs]
  simp only [List.countP_cons]
  constructor
  ·intro h
   refine ⟨fun b hb hx => ?_, fun p => by have := h p; omega⟩
   have h1 := h (ti x)
   rw [hq (ti x) x, decide_eq_true rfl, hx.1] at h1
   have : 0 < xs.countP (q (ti x)) := List.countP_pos_iff.2 ⟨b, hb, by rw [hq, hx.2.1, decide_eq_true hx.2.2.symm]; rfl⟩
   rw [Bool.and_true, if_pos rfl] at h1
   omega
  ·intro ⟨h1, h2⟩ p
   have := h2 p
   split
   ·rename_i hx
    rw [hq] at hx
    simp only [Bool.and_eq_true, decide_eq_true_eq] at hx
    have : xs.countP (q p) = 0 := List.countP_eq_zero.2 fun b hb qP => h1 b hb ⟨hx.2, by rw [hq] at qP; simp only [Bool.and_eq_true, decide_eq_true_eq] at qP; exact ⟨qP.2, hx.1.trans qP.1.symm⟩⟩
    omega
   ·omega
theorem Nt (ps os : List (List U)) (sp : Int) (xs : List (List U)) : Hm ps os sp xs = wh ps os sp xs := by
 unfold Hm wh
 congr 1
 have hq : ∀ p x, e5 p x = (decide ((x.getD 1 U0).toInt = p) && !(x.getD 5 U0).toBool) := fun p x => rfl
 have H := Mo e5 (fun x => (x.getD 1 U0).toInt) (fun x => !(x.getD 5 U0).toBool) hq xs
 have e : ∀ i (h : i < xs.length), xs.getD i [] = xs[i] := fun i h => by rw [List.getD_eq_getElem?_getD, List.getElem?_eq_getElem h]; rfl
 rw [Bool.eq_iff_iff, List.all_eq_true, List.all_eq_true]
 simp only [List.mem_range, Bool.and_eq_true, decide_eq_true_eq, Bool.or_eq_true]
 have A : (∀ i, i < xs.length → xs.countP (e5 ((xs.getD i []).getD 1 U0).toInt) ≤ 1) ↔ ∀ p, xs.countP (e5 p) ≤ 1 := by
  refine ⟨fun h p => ?_, fun h i hi => h _⟩
  by_cases hp : 0 < xs.countP (e5 p)
  ·obtain ⟨x, hx, h1⟩ := List.countP_pos_iff.1 hp
   obtain ⟨i, hi, rfl⟩ := List.mem_iff_getElem.1 hx
   have := h i hi
   rw [hq] at h1
   simp only [Bool.and_eq_true, decide_eq_true_eq] at h1
   rw [e i hi, h1.1] at this
   exact this
  ·omega
 have B : (∀ i, i < xs.length → ((xs.getD i []).getD 5 U0).toBool = true ∨ (xs.take i).countP (e5 ((xs.getD i []).getD 1 U0).toInt) = 0) ↔ xs.Pairwise fun a b => ¬ ((!(a.getD 5 U0).toBool) = true ∧ (!(b.getD 5 U0).toBool) = true ∧ (a.getD 1 U0).toInt = (b.getD 1 U0).toInt) := by
  rw [List.pairwise_iff_getElem]
  constructor
  ·intro h i j hi hj mL ⟨h1, h2, h3⟩
   rcases h j hj with h4 | h4
   ·rw [e j hj] at h4; rw [h4] at h2; cases h2
   ·have := List.countP_eq_zero.1 h4 xs[i] (List.mem_iff_getElem.2 ⟨i, by rw [List.length_take]; omega, by rw [List.getElem_take]⟩)
    rw [hq, e j hj, decide_eq_true h3, h1] at this
    exact this rfl
  ·intro h j hj
   cases hs : ((xs.getD j []).getD 5 U0).toBool with
   | true => exact .inl rfl
   | false =>
    refine .inr (List.countP_eq_zero.2 fun x hx h1 => ?_)
    obtain ⟨i, hi, rfl⟩ := List.mem_iff_getElem.1 hx
    rw [List.length_take] at hi
    rw [List.getElem_take, hq] at h1
    simp only [Bool.and_eq_true, decide_eq_true_eq] at h1
    refine h i j (by omega) hj (by omega) ⟨h1.2, ?_, ?_⟩
    ·rw [← e j hj, hs]; rfl
    ·rw [h1.1, e j hj]
 constructor
 ·intro h i hi
  exact ⟨(h i hi).1, B.2 (H.1 (A.1 fun i hi => (h i hi).2)) i hi⟩
 ·intro h i hi
  exact ⟨(h i hi).1, A.2 (H.2 (B.1 fun i hi => (h i hi).2)) i hi⟩
end Go.Proofs.YtbanfmadialnkaaGreat.Eng
/- half -/
