/- Emergencies: what the reference's and the program's functions compute. -/
import Derived.Test.YtbanfmadialnkaaGreatPA2
import Derived.Test.YtbanfmadialnkaaGreatH
import Derived.Test.YtbanfmadialnkaaGreatPEm
namespace Go.Proofs.YtbanfmadialnkaaGreat.Eng
open Go.RowKit
set_option linter.unusedVariables false
set_option linter.unusedSimpArgs false
set_option linter.unusedSectionVars false
set_option maxRecDepth 100000
variable [Sm]
/- instances too -/
def Hc (a b : Int) : Int := if within a 0 10000 && within b 0 10000 then min (a + b) 10000 else 0
theorem aaq (a b : Int) : KP.c a b = rI (Hc a b) := by
 rw [KP.eq]; (try dsimp +instances only [gr, gi, gl, gb, gt, ui, ul, ub, ut, CX, ln, Cu, aI.i, aI.l, aI.b, aI.t, aI.ij, aI.lj, aI.bj, aI.tj]); rw [Hh, Hh]
 show (bif !(within a 0 10000) then _ else bif !(within b 0 10000) then _ else _) = _
 unfold Hc
 cases h : within a 0 10000
 ·rfl
 ·cases h' : within b 0 10000
  ·rfl
  ·obtain ⟨h1, h2⟩ := Ey h
   obtain ⟨h3, h4⟩ := Ey h'
   rw [Ki.eq]; (try dsimp +instances only [gr, gi, gl, gb, gt, ui, ul, ub, ut, CX, ln, Cu, aI.i, aI.l, aI.b, aI.t, aI.ij, aI.lj, aI.bj, aI.tj]); rw [KW (by omega) (by omega)]
   by_cases c : a + b < 10000
   ·rw [decide_eq_true c]; show rI (a + b) = rI (min (a + b) 10000); rw [Int.min_eq_left (by omega)]
   ·rw [decide_eq_false c]; show rI 10000 = rI (min (a + b) 10000); rw [Int.min_eq_right (by omega)]
theorem XM (a b : Int) : Kv.c a b = rI (Hc a b) := by
 rw [Kv.eq]; (try dsimp +instances only [gr, gi, gl, gb, gt, ui, ul, ub, ut, CX, ln, Cu, aI.i, aI.l, aI.b, aI.t, aI.ij, aI.lj, aI.bj, aI.tj]); rw [Ie, Ez]
 show (bif !(within a 0 10000) then _ else bif !(within b 0 10000) then _ else _) = _
 unfold Hc
 cases h : within a 0 10000
 ·rfl
 ·cases h' : within b 0 10000
  ·rfl
  ·obtain ⟨h1, h2⟩ := Ey h
   obtain ⟨h3, h4⟩ := Ey h'
   rw [KW (by omega) (by omega)]; rfl
def Ib (xs ys : List (List U)) : Bool := xs.all fun x => has ys (v0 x)
theorem aaU (xs ys : List (List U)) (hx : xs.length ≤ 4611686018427387904) (hy : ys.length ≤ 4611686018427387904) : Hp.c xs ys = rB (Ib xs ys) := by
 rw [Hp.eq]; (try dsimp +instances only [gr, gi, gl, gb, gt, ui, ul, ub, ut, CX, ln, Cu, aI.i, aI.l, aI.b, aI.t, aI.ij, aI.lj, aI.bj, aI.tj])
 refine (Ee (l0 := fun i => Hp.l0 xs ys i) (n := xs.length) (p := fun i => has ys (v0 (xs.getD i []))) (b := true) ?_ fun i hi => ?_).trans (by rw [Bool.and_true, Jv xs [] fun x => has ys (v0 x)]; rfl)
 ·rw [Hp.CZ]; (try dsimp +instances only [gr, gi, gl, gb, gt, ui, ul, ub, ut, CX, ln, Cu, aI.i, aI.l, aI.b, aI.t, aI.ij, aI.lj, aI.bj, aI.tj]); rw [Dq (Nat.le_refl _)]; rfl
 ·rw [Hp.CZ]; (try dsimp +instances only [gr, gi, gl, gb, gt, ui, ul, ub, ut, CX, ln, Cu, aI.i, aI.l, aI.b, aI.t, aI.ij, aI.lj, aI.bj, aI.tj]); rw [Dr hi, Dy, decide_eq_true hi, DC (by omega), Int.toNat_natCast, OO _ hy]
  show (bif !(has ys _) then _ else _) = _
  cases has ys (v0 (xs.getD i [])) <;> rfl
theorem Yn (xs a1 ys : List (List U)) (a3 : Int) (hx : xs.length ≤ 4611686018427387904) (hy : ys.length ≤ 4611686018427387904) : KO.c xs a1 ys a3 = rB (!(Ib xs ys)) := by
 have h : IB.c xs a1 ys a3 = rI (pos (fun i => !(has ys (v0 (xs.getD i [])))) xs.length 0) := by
  rw [IB.eq]; (try dsimp +instances only [gr, gi, gl, gb, gt, ui, ul, ub, ut, CX, ln, Cu, aI.i, aI.l, aI.b, aI.t, aI.ij, aI.lj, aI.bj, aI.tj])
  refine Hs (l0 := fun i => IB.l0 xs a1 ys a3 _ i) (n := xs.length) (p := fun i => !(has ys (v0 (xs.getD i [])))) ?_ fun i hi => ?_
  ·rw [IB.CZ]; (try dsimp +instances only [gr, gi, gl, gb, gt, ui, ul, ub, ut, CX, ln, Cu, aI.i, aI.l, aI.b, aI.t, aI.ij, aI.lj, aI.bj, aI.tj]); rw [Dq (Nat.le_refl _)]; rfl
  ·rw [IB.CZ]; (try dsimp +instances only [gr, gi, gl, gb, gt, ui, ul, ub, ut, CX, ln, Cu, aI.i, aI.l, aI.b, aI.t, aI.ij, aI.lj, aI.bj, aI.tj]); rw [Dr hi, Dy, decide_eq_true hi, DC (by omega), Int.toNat_natCast, Qu.eq, PX _ hy]; rfl
 rw [KO.eq]; (try dsimp +instances only [gr, gi, gl, gb, gt, ui, ul, ub, ut, CX, ln, Cu, aI.i, aI.l, aI.b, aI.t, aI.ij, aI.lj, aI.bj, aI.tj]); rw [h]
 show rB (decide (pos _ _ _ ≥ 0)) = _
 rw [Sh, ← List.range_eq_range', JQ xs [] fun x => !(has ys (v0 x))]
 simp only [Ib, List.all_eq_not_any_not, Bool.not_not]
/-- Unsettled, of a person. -/
def ES (p : Int) (x : List U) : Bool := decide ((x.getD 1 U0).toInt = p) && !(x.getD 5 U0).toBool
def La (xs : List (List U)) (p : Int) : List (List U) := (xs.filter (ES p)).map fun x => [.int (v0 x)]
theorem aai (xs : List (List U)) (hx : xs.length ≤ 1048576) (p : Int) : GL.c xs p = some ⟨[[.CY (La xs p)]], []⟩ := by
 rw [GL.eq]; (try dsimp +instances only [gr, gi, gl, gb, gt, ui, ul, ub, ut, CX, ln, Cu, aI.i, aI.l, aI.b, aI.t, aI.ij, aI.lj, aI.bj, aI.tj])
 refine (Ks (l0 := fun i s => GL.l0 xs p i s) (n := xs.length) (p := fun i => ES p (xs.getD i [])) (row := fun i => [.int (v0 (xs.getD i []))]) (R := fun s => some ⟨[[.CY s]], []⟩) (fun s hs => ?_) fun i hi s hs => ?_).trans (by rw [Ud xs [] (ES p) fun x => [U.int (v0 x)]]; rfl)
 ·rw [GL.CZ]; (try dsimp +instances only [gr, gi, gl, gb, gt, ui, ul, ub, ut, CX, ln, Cu, aI.i, aI.l, aI.b, aI.t, aI.ij, aI.lj, aI.bj, aI.tj]); rw [Dq (Nat.le_refl _)]; rfl
 ·rw [GL.CZ]; (try dsimp +instances only [gr, gi, gl, gb, gt, ui, ul, ub, ut, CX, ln, Cu, aI.i, aI.l, aI.b, aI.t, aI.ij, aI.lj, aI.bj, aI.tj]); rw [Dr hi, Dy, decide_eq_true hi, DC (by omega), Int.toNat_natCast, DM (by simp; omega) (by simp; omega)]
  unfold ES
  cases decide (((xs.getD i []).getD 1 U0).toInt = p) <;> cases ((xs.getD i []).getD 5 U0).toBool <;> rfl
theorem XE (xs : List (List U)) (hx : xs.length ≤ 1048576) (p : Int) : FY.c xs p = some ⟨[[.CY (La xs p)]], []⟩ := by
 rw [FY.eq]; (try dsimp +instances only [gr, gi, gl, gb, gt, ui, ul, ub, ut, CX, ln, Cu, aI.i, aI.l, aI.b, aI.t, aI.ij, aI.lj, aI.bj, aI.tj])
 refine (Ks (l0 := fun i s => FY.l0 p xs _ i s) (n := xs.length) (p := fun i => ES p (xs.getD i [])) (row := fun i => [.int (v0 (xs.getD i []))]) (R := fun s => some ⟨[[.CY s]], []⟩) (fun s hs => ?_) fun i hi s hs => ?_).trans (by rw [Ud xs [] (ES p) fun x => [U.int (v0 x)]]; rfl)
 ·rw [FY.CZ]; (try dsimp +instances only [gr, gi, gl, gb, gt, ui, ul, ub, ut, CX, ln, Cu, aI.i, aI.l, aI.b, aI.t, aI.ij, aI.lj, aI.bj, aI.tj]); rw [Dq (Nat.le_refl _)]; rfl
 ·rw [FY.CZ]; (try dsimp +instances only [gr, gi, gl, gb, gt, ui, ul, ub, ut, CX, ln, Cu, aI.i, aI.l, aI.b, aI.t, aI.ij, aI.lj, aI.bj, aI.tj]); rw [Dr hi, Dy, decide_eq_true hi, DC (by omega), Int.toNat_natCast, DM (by simp; omega) (by simp; omega)]
  unfold ES
  cases decide (((xs.getD i []).getD 1 U0).toInt = p) <;> cases ((xs.getD i []).getD 5 U0).toBool <;> rfl
/-- Whether one is behind the one before. -/
def Mb (xs : List (List U)) (i : Nat) : Bool := !(decide (0 < i) && decide (v0 (xs.getD (i - 1) []) ≥ v0 (xs.getD i [])))
def IL (xs : List (List U)) (lo hi : Int) : Bool := (List.range xs.length).all fun i => within (v0 (xs.getD i [])) lo hi && Mb xs i
theorem QD {i : Nat} (h : i ≤ 4611686018427387904) (h0 : 0 < i) : IntKind.i64.wrap ((i : Int) - 1) = ((i - 1 : Nat) : Int) := by rw [KW (by omega) (by omega)]; omega
theorem Ts (xs : List (List U)) (hx : xs.length ≤ 1048576) (lo hi : Int) : ER.c xs lo hi = rB (IL xs lo hi) := by
 rw [ER.eq]; (try dsimp +instances only [gr, gi, gl, gb, gt, ui, ul, ub, ut, CX, ln, Cu, aI.i, aI.l, aI.b, aI.t, aI.ij, aI.lj, aI.bj, aI.tj])
 refine (Ee (l0 := fun i => ER.l0 xs lo hi xs _ i) (n := xs.length) (p := fun i => within (v0 (xs.getD i [])) lo hi && Mb xs i) (b := true) ?_ fun i db => ?_).trans (by rw [Bool.and_true]; rfl)
 ·rw [ER.CZ]; (try dsimp +instances only [gr, gi, gl, gb, gt, ui, ul, ub, ut, CX, ln, Cu, aI.i, aI.l, aI.b, aI.t, aI.ij, aI.lj, aI.bj, aI.tj]); rw [Dq (Nat.le_refl _)]; rfl
 ·rw [ER.CZ]; (try dsimp +instances only [gr, gi, gl, gb, gt, ui, ul, ub, ut, CX, ln, Cu, aI.i, aI.l, aI.b, aI.t, aI.ij, aI.lj, aI.bj, aI.tj]); rw [Dr db, Dy, decide_eq_true db, DC (by omega), Int.toNat_natCast, Ez]
  show (bif !(within (v0 (xs.getD i [])) lo hi) then _ else _) = _
  cases within (v0 (xs.getD i [])) lo hi
  ·rfl
  ·unfold Mb
   by_cases h0 : 0 < i
   ·rw [decide_eq_true (by omega : (i : Int) > 0), QD (by omega) h0, Dy, decide_eq_true (by omega), decide_eq_true h0]
    cases h : decide (v0 (xs.getD (i - 1) []) ≥ v0 (xs.getD i [])) <;> simp only [Int.toNat_natCast, cond_true, h] <;> rfl
   ·rw [decide_eq_false (by omega : ¬ (i : Int) > 0), decide_eq_false h0]; rfl
theorem UL (xs : List (List U)) (hx : xs.length ≤ 1048576) (k : Int) (h1 : 1 ≤ k) (h4 : k ≤ 4) : Hq.c xs k = rB (IL xs (10 * k) (10 * k + 9)) := by
 rw [Hq.eq]; (try dsimp +instances only [gr, gi, gl, gb, gt, ui, ul, ub, ut, CX, ln, Cu, aI.i, aI.l, aI.b, aI.t, aI.ij, aI.lj, aI.bj, aI.tj])
 have e : ∀ v, EL v k = within v (10 * k) (10 * k + 9) := by
  intro v
  unfold EL within
  rw [Bool.eq_iff_iff]
  simp only [Bool.and_eq_true, decide_eq_true_eq]
  by_cases hv : 0 ≤ v
  ·rw [Int.tdiv_eq_ediv_of_nonneg hv]; omega
  ·omega
 refine (Ee (l0 := fun i => Hq.l0 xs k i) (n := xs.length) (p := fun i => within (v0 (xs.getD i [])) (10 * k) (10 * k + 9) && Mb xs i) (b := true) ?_ fun i db => ?_).trans (by rw [Bool.and_true]; rfl)
 ·rw [Hq.CZ]; (try dsimp +instances only [gr, gi, gl, gb, gt, ui, ul, ub, ut, CX, ln, Cu, aI.i, aI.l, aI.b, aI.t, aI.ij, aI.lj, aI.bj, aI.tj]); rw [Dq (Nat.le_refl _)]; rfl
 ·rw [Hq.CZ]; (try dsimp +instances only [gr, gi, gl, gb, gt, ui, ul, ub, ut, CX, ln, Cu, aI.i, aI.l, aI.b, aI.t, aI.ij, aI.lj, aI.bj, aI.tj]); rw [Dr db, Dy, decide_eq_true db, DC (by omega), Int.toNat_natCast, LJ, e]
  show (bif !(within (v0 (xs.getD i [])) (10 * k) (10 * k + 9)) then _ else _) = _
  cases within (v0 (xs.getD i [])) (10 * k) (10 * k + 9)
  ·rfl
  ·unfold Mb
   by_cases h0 : 0 < i
   ·rw [decide_eq_true (by omega : (i : Int) > 0), QD (by omega) h0, Dy, decide_eq_true (by omega), decide_eq_true h0]
    cases h : decide (v0 (xs.getD (i - 1) []) ≥ v0 (xs.getD i [])) <;> simp only [Int.toNat_natCast, cond_true, h] <;> rfl
   ·rw [decide_eq_false (by omega : ¬ (i : Int) > 0), decide_eq_false h0]; rfl
def Jr (a b : List (List U)) (s : Int) : Bool := IL a 10 19 && (IL b 40 49 && within s 0 10)
theorem aaJ (a b : List (List U)) (ha : a.length ≤ 1048576) (hb : b.length ≤ 1048576) (s : Int) : Pe.c a b s = rB (Jr a b s) := by
 rw [Pe.eq]; (try dsimp +instances only [gr, gi, gl, gb, gt, ui, ul, ub, ut, CX, ln, Cu, aI.i, aI.l, aI.b, aI.t, aI.ij, aI.lj, aI.bj, aI.tj]); rw [UL a ha 1 (by omega) (by omega), UL b hb 4 (by omega) (by omega), EI]
 unfold Jr
 show (bif IL a 10 19 then bif IL b 40 49 then _ else _ else _) = _
 cases IL a 10 19 <;> cases IL b 40 49 <;> rfl
theorem Ye (a b : List (List U)) (ha : a.length ≤ 1048576) (hb : b.length ≤ 1048576) (s : Int) : MN.c a b s = rB (Jr a b s) := by
 rw [MN.eq]; (try dsimp +instances only [gr, gi, gl, gb, gt, ui, ul, ub, ut, CX, ln, Cu, aI.i, aI.l, aI.b, aI.t, aI.ij, aI.lj, aI.bj, aI.tj]); rw [Ts a ha, Ts b hb, Ez]
 unfold Jr
 show (bif IL a 10 19 then bif IL b 40 49 then _ else _ else _) = _
 cases IL a 10 19 <;> cases IL b 40 49 <;> rfl
/-- What is asked of one emergency, but for the debts. -/
def JX (ps os : List (List U)) (sp : Int) (xs : List (List U)) (i : Nat) : Bool :=
 decide (v0 (xs.getD i []) = ((i + 1 : Nat) : Int)) && (has ps ((xs.getD i []).getD 1 U0).toInt && (within ((xs.getD i []).getD 2 U0).toInt 0 10000 && (!(decide (0 < i) && decide (((xs.getD (i - 1) []).getD 2 U0).toInt > ((xs.getD i []).getD 2 U0).toInt)) && (decide (((xs.getD i []).getD 3 U0).toInt = Hc ((xs.getD i []).getD 2 U0).toInt sp) && Ib ((xs.getD i []).getD 4 U0).bX os))))
theorem Tf (xs : List (List U)) (p : Int) : (La xs p).length = xs.countP (ES p) := by rw [La, List.length_map, List.countP_eq_length_filter]
def Rf (ps os : List (List U)) (sp : Int) (xs : List (List U)) : Bool := ((List.range xs.length).all fun i => JX ps os sp xs i && decide (xs.countP (ES ((xs.getD i []).getD 1 U0).toInt) ≤ 1)) && (Jr ps os sp && decide ((xs.length : Int) ≤ 8))
def LZ (ps os : List (List U)) (sp : Int) (xs : List (List U)) : Bool := ((List.range xs.length).all fun i => JX ps os sp xs i && (((xs.getD i []).getD 5 U0).toBool || decide ((xs.take i).countP (ES ((xs.getD i []).getD 1 U0).toInt) = 0))) && (Jr ps os sp && decide ((xs.length : Int) ≤ 8))
theorem ZX (ps os : List (List U)) (sp : Int) (xs : List (List U)) (h : WR Db.ct 180 xs) (hc : Da xs ≤ 1048576) (hp : ps.length ≤ 1048576) (ho : os.length ≤ 1048576) : GW.c ps os sp xs = rB (Rf ps os sp xs) := by
 have hl := DA xs
 rw [GW.eq]; (try dsimp +instances only [gr, gi, gl, gb, gt, ui, ul, ub, ut, CX, ln, Cu, aI.i, aI.l, aI.b, aI.t, aI.ij, aI.lj, aI.bj, aI.tj])
 refine Ee (l0 := fun i => GW.l0 xs i ps os sp) (n := xs.length) ?_ fun i hi => ?_
 ·rw [GW.CZ]; (try dsimp +instances only [gr, gi, gl, gb, gt, ui, ul, ub, ut, CX, ln, Cu, aI.i, aI.l, aI.b, aI.t, aI.ij, aI.lj, aI.bj, aI.tj]); rw [Dq (Nat.le_refl _), aaJ _ _ hp ho]
  show (bif Jr ps os sp then _ else _) = _
  cases Jr ps os sp <;> rfl
 ·obtain ⟨a, b, c, d, u, e, hr, hu⟩ := Sz (h.2 _ (Du hi (z := [])))
  have Xn := Vk hi hr
  rw [GW.CZ]; (try dsimp +instances only [gr, gi, gl, gb, gt, ui, ul, ub, ut, CX, ln, Cu, aI.i, aI.l, aI.b, aI.t, aI.ij, aI.lj, aI.bj, aI.tj]); rw [Dr hi, Dy, decide_eq_true hi, DC (by omega), Int.toNat_natCast]
  unfold JX v0
  rw [hr]
  show (bif !decide (a = _) then _ else (FV.c ps b).bind _) = bif decide (a = _) && (has ps b && (within c 0 10000 && (_ && (decide (d = Hc c sp) && Ib u os)))) && _ then _ else _
  rw [OO _ (by omega)]
  show (bif !decide (a = _) then _ else bif !(has ps b) then _ else (DO.c c).bind _) = _
  rw [Hh]
  show (bif !decide (a = _) then _ else bif !(has ps b) then _ else bif !(within c 0 10000) then _ else _) = _
  cases decide (a = ((i + 1 : Nat) : Int))
  ·rfl
  cases has ps b
  ·rfl
  cases within c 0 10000
  ·rfl
  have tail : ((KP.c c sp).bind fun r5 => bif !decide (d = (r5.u 0 0).toInt) then (some ⟨[[.bool false]], []⟩) else ((Hp.c u os).bind fun r6 => bif !(r6.u 0 0).toBool then (some ⟨[[.bool false]], []⟩) else ((GL.c xs b).bind fun r7 => bif decide ((↑(r7.u 0 0).bX.length : Int) > (1 : Int)) then (some ⟨[[.bool false]], []⟩) else (GW.l0 xs ((i + 1 : Nat) : Int) ps os sp)))) = bif decide (d = Hc c sp) && Ib u os && decide (xs.countP (ES b) ≤ 1) then GW.l0 xs ((i + 1 : Nat) : Int) ps os sp else rB false := by
   rw [aaq, aaU _ _ (by omega) (by omega), aai _ (by omega)]
   show (bif !decide (d = Hc c sp) then _ else bif !(Ib u os) then _ else bif decide (((La xs b).length : Int) > 1) then _ else _) = _
   rw [Tf]
   cases decide (d = Hc c sp)
   ·rfl
   cases Ib u os
   ·rfl
   by_cases hd : xs.countP (ES b) ≤ 1
   ·rw [decide_eq_true hd, decide_eq_false (by omega)]; rfl
   ·rw [decide_eq_false hd, decide_eq_true (by omega)]; rfl
  by_cases h0 : 0 < i
  ·rw [decide_eq_true (by omega : (i : Int) > 0), QD (by omega) h0, Dy, decide_eq_true (by omega), decide_eq_true h0]
   show (bif decide (((xs.getD (i - 1) []).getD 2 U0).toInt > c) then _ else _) = bif (!decide (((xs.getD (i - 1) []).getD 2 U0).toInt > c) && (decide (d = Hc c sp) && Ib u os)) && _ then _ else _
   cases decide (((xs.getD (i - 1) []).getD 2 U0).toInt > c)
   ·exact tail
   ·rfl
  ·rw [decide_eq_false (by omega : ¬ (i : Int) > 0), decide_eq_false h0]
   exact tail
theorem Xt (ps os : List (List U)) (sp : Int) (xs : List (List U)) (h : WR Db.ct 180 xs) (hc : Da xs ≤ 1048576) (hp : ps.length ≤ 1048576) (ho : os.length ≤ 1048576) : Ig.c ps os sp xs = rB (LZ ps os sp xs) := by
 have hl := DA xs
 rw [Ig.eq]; (try dsimp +instances only [gr, gi, gl, gb, gt, ui, ul, ub, ut, CX, ln, Cu, aI.i, aI.l, aI.b, aI.t, aI.ij, aI.lj, aI.bj, aI.tj])
 refine Ee (l0 := fun i => Ig.l0 xs xs _ i ps os sp) (n := xs.length) ?_ fun i hi => ?_
 ·rw [Ig.CZ]; (try dsimp +instances only [gr, gi, gl, gb, gt, ui, ul, ub, ut, CX, ln, Cu, aI.i, aI.l, aI.b, aI.t, aI.ij, aI.lj, aI.bj, aI.tj]); rw [Dq (Nat.le_refl _), Ye _ _ hp ho]
  show (bif Jr ps os sp then _ else _) = _
  cases Jr ps os sp <;> rfl
 ·obtain ⟨a, b, c, d, u, e, hr, hu⟩ := Sz (h.2 _ (Du hi (z := [])))
  have Xn := Vk hi hr
  have Ab : (xs.take i).length = i := by rw [List.length_take]; omega
  have e0 : Int.toNat ((i : Int) - 0) = i := by omega
  have key : Lt.c ps os sp a b c d u e (xs.take i) = rB (JX ps os sp xs i && (e || decide ((xs.take i).countP (ES b) = 0))) := by
   rw [Lt.eq]; (try dsimp +instances only [gr, gi, gl, gb, gt, ui, ul, ub, ut, CX, ln, Cu, aI.i, aI.l, aI.b, aI.t, aI.ij, aI.lj, aI.bj, aI.tj]); simp only [Ab]; rw [DC (by omega), PX _ (by omega), Ie]
   unfold JX v0
   rw [hr]
   show (bif !decide (a = _) then _ else bif !(has ps b) then _ else bif !(within c 0 10000) then _ else _) = rB (decide (a = _) && (has ps b && (within c 0 10000 && (_ && (decide (d = Hc c sp) && Ib u os)))) && _)
   cases decide (a = ((i + 1 : Nat) : Int))
   ·rfl
   cases has ps b
   ·rfl
   cases within c 0 10000
   ·rfl
   have tail : ((Kv.c c sp).bind fun r5 => bif !decide (d = (r5.u 0 0).toInt) then (some ⟨[[.bool false]], []⟩) else ((KO.c u ps os sp).bind fun r6 => bif (r6.u 0 0).toBool then (some ⟨[[.bool false]], []⟩) else (bif e then (some ⟨[[.bool true]], []⟩) else ((FY.c (xs.take i) b).bind fun r7 => some ⟨[[.bool (decide ((↑(r7.u 0 0).bX.length : Int) = (0 : Int)))]], []⟩)))) = rB (decide (d = Hc c sp) && Ib u os && (e || decide ((xs.take i).countP (ES b) = 0))) := by
    rw [XM, Yn _ _ _ _ (by omega) (by omega), XE _ (by omega)]
    show (bif !decide (d = Hc c sp) then _ else bif !(Ib u os) then _ else bif e then _ else rB (decide (((La (xs.take i) b).length : Int) = 0))) = _
    rw [Tf]
    cases decide (d = Hc c sp)
    ·rfl
    cases Ib u os
    ·rfl
    cases e
    ·show rB _ = rB _
     congr 1
     show decide _ = decide _
     rw [decide_eq_decide]; omega
    ·rfl
   by_cases h0 : 0 < i
   ·have e1 : (xs.take i).getD (i - 1) [] = xs.getD (i - 1) [] := by
     rw [List.getD_eq_getElem?_getD, List.getD_eq_getElem?_getD, List.getElem?_take, if_pos (by omega)]
    rw [decide_eq_true (by omega : (i : Int) > 0), QD (by omega) h0, Dy, decide_eq_true (by omega), decide_eq_true h0, Int.toNat_natCast, e1]
    show (bif decide (((xs.getD (i - 1) []).getD 2 U0).toInt > c) then _ else _) = rB ((!decide (((xs.getD (i - 1) []).getD 2 U0).toInt > c) && (decide (d = Hc c sp) && Ib u os)) && _)
    cases decide (((xs.getD (i - 1) []).getD 2 U0).toInt > c)
    ·exact tail
    ·rfl
   ·rw [decide_eq_false (by omega : ¬ (i : Int) > 0), decide_eq_false h0]
    exact tail
  rw [Ig.CZ]; (try dsimp +instances only [gr, gi, gl, gb, gt, ui, ul, ub, ut, CX, ln, Cu, aI.i, aI.l, aI.b, aI.t, aI.ij, aI.lj, aI.bj, aI.tj]); rw [Dr hi, Dy, decide_eq_true hi, DC (by omega), Int.toNat_natCast, decide_eq_true (by omega), e0, hr]
  show ((Lt.c ps os sp a b c d u e (xs.take i)).bind _) = bif JX ps os sp xs i && (e || decide ((xs.take i).countP (ES b) = 0)) then _ else _
  rw [key]
  show (bif !(JX ps os sp xs i && _) then _ else _) = _
  cases (JX ps os sp xs i && (e || decide ((xs.take i).countP (ES b) = 0))) <;> rfl
/-- At most one debt each: whether all are counted, or those before each. -/
theorem TR (q : Int → List U → Bool) (KK : List U → Int) (un : List U → Bool) (hq : ∀ p x, q p x = (decide (KK x = p) && un x)) : ∀ xs : List (List U), (∀ p, xs.countP (q p) ≤ 1) ↔ xs.Pairwise fun a b => ¬ (un a = true ∧ un b = true ∧ KK a = KK b)
 | [] => by simp
 | x :: xs => by
  rw [List.pairwise_cons, ← TR q KK un hq xs]
  simp only [List.countP_cons]
  constructor
  ·intro h
   refine ⟨fun b hb hx => ?_, fun p => by have := h p; omega⟩
   have h1 := h (KK x)
   rw [hq (KK x) x, decide_eq_true rfl, hx.1] at h1
   have : 0 < xs.countP (q (KK x)) := List.countP_pos_iff.2 ⟨b, hb, by rw [hq, hx.2.1, decide_eq_true hx.2.2.symm]; rfl⟩
   rw [Bool.and_true, if_pos rfl] at h1
   omega
  ·intro ⟨h1, h2⟩ p
   have := h2 p
   split
   ·rename_i hx
    rw [hq] at hx
    simp only [Bool.and_eq_true, decide_eq_true_eq] at hx
    have : xs.countP (q p) = 0 := List.countP_eq_zero.2 fun b hb rC => h1 b hb ⟨hx.2, by rw [hq] at rC; simp only [Bool.and_eq_true, decide_eq_true_eq] at rC; exact ⟨rC.2, hx.1.trans rC.1.symm⟩⟩
    omega
   ·omega
theorem Vv (ps os : List (List U)) (sp : Int) (xs : List (List U)) : Rf ps os sp xs = LZ ps os sp xs := by
 unfold Rf LZ
 congr 1
 have hq : ∀ p x, ES p x = (decide ((x.getD 1 U0).toInt = p) && !(x.getD 5 U0).toBool) := fun p x => rfl
 have H := TR ES (fun x => (x.getD 1 U0).toInt) (fun x => !(x.getD 5 U0).toBool) hq xs
 have e : ∀ i (h : i < xs.length), xs.getD i [] = xs[i] := fun i h => by rw [List.getD_eq_getElem?_getD, List.getElem?_eq_getElem h]; rfl
 rw [Bool.eq_iff_iff, List.all_eq_true, List.all_eq_true]
 simp only [List.mem_range, Bool.and_eq_true, decide_eq_true_eq, Bool.or_eq_true]
 have A : (∀ i, i < xs.length → xs.countP (ES ((xs.getD i []).getD 1 U0).toInt) ≤ 1) ↔ ∀ p, xs.countP (ES p) ≤ 1 := by
  refine ⟨fun h p => ?_, fun h i hi => h _⟩
  by_cases hp : 0 < xs.countP (ES p)
  ·obtain ⟨x, hx, h1⟩ := List.countP_pos_iff.1 hp
   obtain ⟨i, hi, rfl⟩ := List.mem_iff_getElem.1 hx
   have := h i hi
   rw [hq] at h1
   simp only [Bool.and_eq_true, decide_eq_true_eq] at h1
   rw [e i hi, h1.1] at this
   exact this
  ·omega
 have B : (∀ i, i < xs.length → ((xs.getD i []).getD 5 U0).toBool = true ∨ (xs.take i).countP (ES ((xs.getD i []).getD 1 U0).toInt) = 0) ↔ xs.Pairwise fun a b => ¬ ((!(a.getD 5 U0).toBool) = true ∧ (!(b.getD 5 U0).toBool) = true ∧ (a.getD 1 U0).toInt = (b.getD 1 U0).toInt) := by
  rw [List.pairwise_iff_getElem]
  constructor
  ·intro h i j hi hj fC ⟨h1, h2, h3⟩
   rcases h j hj with h4 | h4
   ·rw [e j hj] at h4; rw [h4] at h2; cases h2
   ·have := List.countP_eq_zero.1 h4 xs[i] (List.mem_iff_getElem.2 ⟨i, by rw [List.length_take]; omega, by rw [List.getElem_take]⟩)
    rw [hq, e j hj, decide_eq_true h3, h1] at this
    exact this rfl
  ·intro h j hj
   cases hs : ((xs.getD j []).getD 5 U0).toBool with
   | true => exact .inl rfl
   | false =>
    refine .inr (List.countP_eq_zero.2 fun x hx h1 => ?_)
    obtain ⟨i, hi, rfl⟩ := List.mem_iff_getElem.1 hx
    rw [List.length_take] at hi
    rw [List.getElem_take, hq] at h1
    simp only [Bool.and_eq_true, decide_eq_true_eq] at h1
    refine h i j (by omega) hj (by omega) ⟨h1.2, ?_, ?_⟩
    ·rw [← e j hj, hs]; rfl
    ·rw [h1.1, e j hj]
 constructor
 ·intro h i hi
  exact ⟨(h i hi).1, B.2 (H.1 (A.1 fun i hi => (h i hi).2)) i hi⟩
 ·intro h i hi
  exact ⟨(h i hi).1, A.2 (H.2 (B.1 fun i hi => (h i hi).2)) i hi⟩
end Go.Proofs.YtbanfmadialnkaaGreat.Eng
/- half -/
