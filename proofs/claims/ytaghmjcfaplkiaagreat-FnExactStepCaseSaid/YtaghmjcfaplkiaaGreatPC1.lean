/- Emergencies: what the reference's and the program's functions compute. -/
import Derived.Test.YtaghmjcfaplkiaaGreatPA2
import Derived.Test.YtaghmjcfaplkiaaGreatH
import Derived.Test.YtaghmjcfaplkiaaGreatPEm
namespace Go.Proofs.YtaghmjcfaplkiaaGreat.Eng
open Go.RowKit
set_option linter.unusedVariables false
set_option linter.unusedSimpArgs false
set_option linter.unusedSectionVars false
set_option maxRecDepth 100000
variable [Sm]
/- instances too -/
def HN (a b : Int) : Int := if within a 0 10000 && within b 0 10000 then min (a + b) 10000 else 0
theorem Yg (a b : Int) : MG.c a b = rI (HN a b) := by
 rw [MG.eq]; (try dsimp +instances only [gr, gi, gl, gb, gt, ui, ul, ub, ut, Ft, ln, EK, aJ.i, aJ.l, aJ.b, aJ.t, aJ.ij, aJ.lj, aJ.bj, aJ.tj]); rw [PI, PI]
 show (bif !(within a 0 10000) then _ else bif !(within b 0 10000) then _ else _) = _
 unfold HN
 cases h : within a 0 10000
 ·rfl
 ·cases h' : within b 0 10000
  ·rfl
  ·obtain ⟨h1, h2⟩ := LF h
   obtain ⟨h3, h4⟩ := LF h'
   rw [Rp.eq]; (try dsimp +instances only [gr, gi, gl, gb, gt, ui, ul, ub, ut, Ft, ln, EK, aJ.i, aJ.l, aJ.b, aJ.t, aJ.ij, aJ.lj, aJ.bj, aJ.tj]); rw [Gf (by omega) (by omega)]
   by_cases c : a + b < 10000
   ·rw [decide_eq_true c]; show rI (a + b) = rI (min (a + b) 10000); rw [Int.min_eq_left (by omega)]
   ·rw [decide_eq_false c]; show rI 10000 = rI (min (a + b) 10000); rw [Int.min_eq_right (by omega)]
theorem WL (a b : Int) : My.c a b = rI (HN a b) := by
 rw [My.eq]; (try dsimp +instances only [gr, gi, gl, gb, gt, ui, ul, ub, ut, Ft, ln, EK, aJ.i, aJ.l, aJ.b, aJ.t, aJ.ij, aJ.lj, aJ.bj, aJ.tj]); rw [Rc, LK]
 show (bif !(within a 0 10000) then _ else bif !(within b 0 10000) then _ else _) = _
 unfold HN
 cases h : within a 0 10000
 ·rfl
 ·cases h' : within b 0 10000
  ·rfl
  ·obtain ⟨h1, h2⟩ := LF h
   obtain ⟨h3, h4⟩ := LF h'
   rw [Gf (by omega) (by omega)]; rfl
def Ks (xs ys : List (List U)) : Bool := xs.all fun x => has ys (v0 x)
theorem Yo (xs ys : List (List U)) (hx : xs.length ≤ 4611686018427387904) (hy : ys.length ≤ 4611686018427387904) : Kj.c xs ys = rB (Ks xs ys) := by
 rw [Kj.eq]; (try dsimp +instances only [gr, gi, gl, gb, gt, ui, ul, ub, ut, Ft, ln, EK, aJ.i, aJ.l, aJ.b, aJ.t, aJ.ij, aJ.lj, aJ.bj, aJ.tj])
 refine (Nv (l0 := fun i => Kj.l0 xs ys i) (n := xs.length) (p := fun i => has ys (v0 (xs.getD i []))) (b := true) ?_ fun i hi => ?_).trans (by rw [Bool.and_true, XS xs [] fun x => has ys (v0 x)]; rfl)
 ·rw [Kj.Fy]; (try dsimp +instances only [gr, gi, gl, gb, gt, ui, ul, ub, ut, Ft, ln, EK, aJ.i, aJ.l, aJ.b, aJ.t, aJ.ij, aJ.lj, aJ.bj, aJ.tj]); rw [FK (Nat.le_refl _)]; rfl
 ·rw [Kj.Fy]; (try dsimp +instances only [gr, gi, gl, gb, gt, ui, ul, ub, ut, Ft, ln, EK, aJ.i, aJ.l, aJ.b, aJ.t, aJ.ij, aJ.lj, aJ.bj, aJ.tj]); rw [FJ hi, FG, decide_eq_true hi, FU (by omega), Int.toNat_natCast, SA _ hy]
  show (bif !(has ys _) then _ else _) = _
  cases has ys (v0 (xs.getD i [])) <;> rfl
theorem WW (xs a1 ys : List (List U)) (a3 : Int) (hx : xs.length ≤ 4611686018427387904) (hy : ys.length ≤ 4611686018427387904) : ME.c xs a1 ys a3 = rB (!(Ks xs ys)) := by
 have h : KP.c xs a1 ys a3 = rI (pos (fun i => !(has ys (v0 (xs.getD i [])))) xs.length 0) := by
  rw [KP.eq]; (try dsimp +instances only [gr, gi, gl, gb, gt, ui, ul, ub, ut, Ft, ln, EK, aJ.i, aJ.l, aJ.b, aJ.t, aJ.ij, aJ.lj, aJ.bj, aJ.tj])
  refine Th (l0 := fun i => KP.l0 xs a1 ys a3 _ i) (n := xs.length) (p := fun i => !(has ys (v0 (xs.getD i [])))) ?_ fun i hi => ?_
  ·rw [KP.Fy]; (try dsimp +instances only [gr, gi, gl, gb, gt, ui, ul, ub, ut, Ft, ln, EK, aJ.i, aJ.l, aJ.b, aJ.t, aJ.ij, aJ.lj, aJ.bj, aJ.tj]); rw [FK (Nat.le_refl _)]; rfl
  ·rw [KP.Fy]; (try dsimp +instances only [gr, gi, gl, gb, gt, ui, ul, ub, ut, Ft, ln, EK, aJ.i, aJ.l, aJ.b, aJ.t, aJ.ij, aJ.lj, aJ.bj, aJ.tj]); rw [FJ hi, FG, decide_eq_true hi, FU (by omega), Int.toNat_natCast, Rf.eq, Sa _ hy]; rfl
 rw [ME.eq]; (try dsimp +instances only [gr, gi, gl, gb, gt, ui, ul, ub, ut, Ft, ln, EK, aJ.i, aJ.l, aJ.b, aJ.t, aJ.ij, aJ.lj, aJ.bj, aJ.tj]); rw [h]
 show rB (decide (pos _ _ _ ≥ 0)) = _
 rw [Sk, ← List.range_eq_range', Rl xs [] fun x => !(has ys (v0 x))]
 simp only [Ks, List.all_eq_not_any_not, Bool.not_not]
/-- Unsettled, of a person. -/
def Hi (p : Int) (x : List U) : Bool := decide ((x.getD 1 U0).toInt = p) && !(x.getD 5 U0).toBool
def ML (xs : List (List U)) (p : Int) : List (List U) := (xs.filter (Hi p)).map fun x => [.int (v0 x)]
theorem Yf (xs : List (List U)) (hx : xs.length ≤ 1048576) (p : Int) : Jg.c xs p = some ⟨[[.lst (ML xs p)]], []⟩ := by
 rw [Jg.eq]; (try dsimp +instances only [gr, gi, gl, gb, gt, ui, ul, ub, ut, Ft, ln, EK, aJ.i, aJ.l, aJ.b, aJ.t, aJ.ij, aJ.lj, aJ.bj, aJ.tj])
 refine (QI (l0 := fun i s => Jg.l0 xs p i s) (n := xs.length) (p := fun i => Hi p (xs.getD i [])) (row := fun i => [.int (v0 (xs.getD i []))]) (R := fun s => some ⟨[[.lst s]], []⟩) (fun s hs => ?_) fun i hi s hs => ?_).trans (by rw [Sn xs [] (Hi p) fun x => [U.int (v0 x)]]; rfl)
 ·rw [Jg.Fy]; (try dsimp +instances only [gr, gi, gl, gb, gt, ui, ul, ub, ut, Ft, ln, EK, aJ.i, aJ.l, aJ.b, aJ.t, aJ.ij, aJ.lj, aJ.bj, aJ.tj]); rw [FK (Nat.le_refl _)]; rfl
 ·rw [Jg.Fy]; (try dsimp +instances only [gr, gi, gl, gb, gt, ui, ul, ub, ut, Ft, ln, EK, aJ.i, aJ.l, aJ.b, aJ.t, aJ.ij, aJ.lj, aJ.bj, aJ.tj]); rw [FJ hi, FG, decide_eq_true hi, FU (by omega), Int.toNat_natCast, FW (by simp; omega) (by simp; omega)]
  unfold Hi
  cases decide (((xs.getD i []).getD 1 U0).toInt = p) <;> cases ((xs.getD i []).getD 5 U0).toBool <;> rfl
theorem WK (xs : List (List U)) (hx : xs.length ≤ 1048576) (p : Int) : Im.c xs p = some ⟨[[.lst (ML xs p)]], []⟩ := by
 rw [Im.eq]; (try dsimp +instances only [gr, gi, gl, gb, gt, ui, ul, ub, ut, Ft, ln, EK, aJ.i, aJ.l, aJ.b, aJ.t, aJ.ij, aJ.lj, aJ.bj, aJ.tj])
 refine (QI (l0 := fun i s => Im.l0 p xs _ i s) (n := xs.length) (p := fun i => Hi p (xs.getD i [])) (row := fun i => [.int (v0 (xs.getD i []))]) (R := fun s => some ⟨[[.lst s]], []⟩) (fun s hs => ?_) fun i hi s hs => ?_).trans (by rw [Sn xs [] (Hi p) fun x => [U.int (v0 x)]]; rfl)
 ·rw [Im.Fy]; (try dsimp +instances only [gr, gi, gl, gb, gt, ui, ul, ub, ut, Ft, ln, EK, aJ.i, aJ.l, aJ.b, aJ.t, aJ.ij, aJ.lj, aJ.bj, aJ.tj]); rw [FK (Nat.le_refl _)]; rfl
 ·rw [Im.Fy]; (try dsimp +instances only [gr, gi, gl, gb, gt, ui, ul, ub, ut, Ft, ln, EK, aJ.i, aJ.l, aJ.b, aJ.t, aJ.ij, aJ.lj, aJ.bj, aJ.tj]); rw [FJ hi, FG, decide_eq_true hi, FU (by omega), Int.toNat_natCast, FW (by simp; omega) (by simp; omega)]
  unfold Hi
  cases decide (((xs.getD i []).getD 1 U0).toInt = p) <;> cases ((xs.getD i []).getD 5 U0).toBool <;> rfl
/-- Whether one is behind the one before. -/
def Nw (xs : List (List U)) (i : Nat) : Bool := !(decide (0 < i) && decide (v0 (xs.getD (i - 1) []) ≥ v0 (xs.getD i [])))
def KV (xs : List (List U)) (lo hi : Int) : Bool := (List.range xs.length).all fun i => within (v0 (xs.getD i [])) lo hi && Nw xs i
theorem Rk {i : Nat} (h : i ≤ 4611686018427387904) (h0 : 0 < i) : IntKind.i64.wrap ((i : Int) - 1) = ((i - 1 : Nat) : Int) := by rw [Gf (by omega) (by omega)]; omega
theorem To (xs : List (List U)) (hx : xs.length ≤ 1048576) (lo hi : Int) : Kg.c xs lo hi = rB (KV xs lo hi) := by
 rw [Kg.eq]; (try dsimp +instances only [gr, gi, gl, gb, gt, ui, ul, ub, ut, Ft, ln, EK, aJ.i, aJ.l, aJ.b, aJ.t, aJ.ij, aJ.lj, aJ.bj, aJ.tj])
 refine (Nv (l0 := fun i => Kg.l0 xs lo hi xs _ i) (n := xs.length) (p := fun i => within (v0 (xs.getD i [])) lo hi && Nw xs i) (b := true) ?_ fun i dw => ?_).trans (by rw [Bool.and_true]; rfl)
 ·rw [Kg.Fy]; (try dsimp +instances only [gr, gi, gl, gb, gt, ui, ul, ub, ut, Ft, ln, EK, aJ.i, aJ.l, aJ.b, aJ.t, aJ.ij, aJ.lj, aJ.bj, aJ.tj]); rw [FK (Nat.le_refl _)]; rfl
 ·rw [Kg.Fy]; (try dsimp +instances only [gr, gi, gl, gb, gt, ui, ul, ub, ut, Ft, ln, EK, aJ.i, aJ.l, aJ.b, aJ.t, aJ.ij, aJ.lj, aJ.bj, aJ.tj]); rw [FJ dw, FG, decide_eq_true dw, FU (by omega), Int.toNat_natCast, LK]
  show (bif !(within (v0 (xs.getD i [])) lo hi) then _ else _) = _
  cases within (v0 (xs.getD i [])) lo hi
  ·rfl
  ·unfold Nw
   by_cases h0 : 0 < i
   ·rw [decide_eq_true (by omega : (i : Int) > 0), Rk (by omega) h0, FG, decide_eq_true (by omega), decide_eq_true h0]
    cases h : decide (v0 (xs.getD (i - 1) []) ≥ v0 (xs.getD i [])) <;> simp only [Int.toNat_natCast, cond_true, h] <;> rfl
   ·rw [decide_eq_false (by omega : ¬ (i : Int) > 0), decide_eq_false h0]; rfl
theorem Ug (xs : List (List U)) (hx : xs.length ≤ 1048576) (k : Int) (h1 : 1 ≤ k) (h4 : k ≤ 4) : Kk.c xs k = rB (KV xs (10 * k) (10 * k + 9)) := by
 rw [Kk.eq]; (try dsimp +instances only [gr, gi, gl, gb, gt, ui, ul, ub, ut, Ft, ln, EK, aJ.i, aJ.l, aJ.b, aJ.t, aJ.ij, aJ.lj, aJ.bj, aJ.tj])
 have e : ∀ v, QJ v k = within v (10 * k) (10 * k + 9) := by
  intro v
  unfold QJ within
  rw [Bool.eq_iff_iff]
  simp only [Bool.and_eq_true, decide_eq_true_eq]
  by_cases hv : 0 ≤ v
  ·rw [Int.tdiv_eq_ediv_of_nonneg hv]; omega
  ·omega
 refine (Nv (l0 := fun i => Kk.l0 xs k i) (n := xs.length) (p := fun i => within (v0 (xs.getD i [])) (10 * k) (10 * k + 9) && Nw xs i) (b := true) ?_ fun i dw => ?_).trans (by rw [Bool.and_true]; rfl)
 ·rw [Kk.Fy]; (try dsimp +instances only [gr, gi, gl, gb, gt, ui, ul, ub, ut, Ft, ln, EK, aJ.i, aJ.l, aJ.b, aJ.t, aJ.ij, aJ.lj, aJ.bj, aJ.tj]); rw [FK (Nat.le_refl _)]; rfl
 ·rw [Kk.Fy]; (try dsimp +instances only [gr, gi, gl, gb, gt, ui, ul, ub, ut, Ft, ln, EK, aJ.i, aJ.l, aJ.b, aJ.t, aJ.ij, aJ.lj, aJ.bj, aJ.tj]); rw [FJ dw, FG, decide_eq_true dw, FU (by omega), Int.toNat_natCast, Yi, e]
  show (bif !(within (v0 (xs.getD i [])) (10 * k) (10 * k + 9)) then _ else _) = _
  cases within (v0 (xs.getD i [])) (10 * k) (10 * k + 9)
  ·rfl
  ·unfold Nw
   by_cases h0 : 0 < i
   ·rw [decide_eq_true (by omega : (i : Int) > 0), Rk (by omega) h0, FG, decide_eq_true (by omega), decide_eq_true h0]
    cases h : decide (v0 (xs.getD (i - 1) []) ≥ v0 (xs.getD i [])) <;> simp only [Int.toNat_natCast, cond_true, h] <;> rfl
   ·rw [decide_eq_false (by omega : ¬ (i : Int) > 0), decide_eq_false h0]; rfl
def Lu (a b : List (List U)) (s : Int) : Bool := KV a 10 19 && (KV b 40 49 && within s 0 10)
theorem Yn (a b : List (List U)) (ha : a.length ≤ 1048576) (hb : b.length ≤ 1048576) (s : Int) : PR.c a b s = rB (Lu a b s) := by
 rw [PR.eq]; (try dsimp +instances only [gr, gi, gl, gb, gt, ui, ul, ub, ut, Ft, ln, EK, aJ.i, aJ.l, aJ.b, aJ.t, aJ.ij, aJ.lj, aJ.bj, aJ.tj]); rw [Ug a ha 1 (by omega) (by omega), Ug b hb 4 (by omega) (by omega), MD]
 unfold Lu
 show (bif KV a 10 19 then bif KV b 40 49 then _ else _ else _) = _
 cases KV a 10 19 <;> cases KV b 40 49 <;> rfl
theorem WV (a b : List (List U)) (ha : a.length ≤ 1048576) (hb : b.length ≤ 1048576) (s : Int) : Og.c a b s = rB (Lu a b s) := by
 rw [Og.eq]; (try dsimp +instances only [gr, gi, gl, gb, gt, ui, ul, ub, ut, Ft, ln, EK, aJ.i, aJ.l, aJ.b, aJ.t, aJ.ij, aJ.lj, aJ.bj, aJ.tj]); rw [To a ha, To b hb, LK]
 unfold Lu
 show (bif KV a 10 19 then bif KV b 40 49 then _ else _ else _) = _
 cases KV a 10 19 <;> cases KV b 40 49 <;> rfl
/-- What is asked of one emergency, but for the debts. -/
def LR (ps os : List (List U)) (sp : Int) (xs : List (List U)) (i : Nat) : Bool :=
 decide (v0 (xs.getD i []) = ((i + 1 : Nat) : Int)) && (has ps ((xs.getD i []).getD 1 U0).toInt && (within ((xs.getD i []).getD 2 U0).toInt 0 10000 && (!(decide (0 < i) && decide (((xs.getD (i - 1) []).getD 2 U0).toInt > ((xs.getD i []).getD 2 U0).toInt)) && (decide (((xs.getD i []).getD 3 U0).toInt = HN ((xs.getD i []).getD 2 U0).toInt sp) && Ks ((xs.getD i []).getD 4 U0).bB os))))
theorem SX (xs : List (List U)) (p : Int) : (ML xs p).length = xs.countP (Hi p) := by rw [ML, List.length_map, List.countP_eq_length_filter]
def RB (ps os : List (List U)) (sp : Int) (xs : List (List U)) : Bool := ((List.range xs.length).all fun i => LR ps os sp xs i && decide (xs.countP (Hi ((xs.getD i []).getD 1 U0).toInt) ≤ 1)) && (Lu ps os sp && decide ((xs.length : Int) ≤ 8))
def LP (ps os : List (List U)) (sp : Int) (xs : List (List U)) : Bool := ((List.range xs.length).all fun i => LR ps os sp xs i && (((xs.getD i []).getD 5 U0).toBool || decide ((xs.take i).countP (Hi ((xs.getD i []).getD 1 U0).toInt) = 0))) && (Lu ps os sp && decide ((xs.length : Int) ≤ 8))
theorem XX (ps os : List (List U)) (sp : Int) (xs : List (List U)) (h : WR Fw.ct 94 xs) (hc : Fx xs ≤ 1048576) (hp : ps.length ≤ 1048576) (ho : os.length ≤ 1048576) : JR.c ps os sp xs = rB (RB ps os sp xs) := by
 have hl := FF xs
 rw [JR.eq]; (try dsimp +instances only [gr, gi, gl, gb, gt, ui, ul, ub, ut, Ft, ln, EK, aJ.i, aJ.l, aJ.b, aJ.t, aJ.ij, aJ.lj, aJ.bj, aJ.tj])
 refine Nv (l0 := fun i => JR.l0 xs i ps os sp) (n := xs.length) ?_ fun i hi => ?_
 ·rw [JR.Fy]; (try dsimp +instances only [gr, gi, gl, gb, gt, ui, ul, ub, ut, Ft, ln, EK, aJ.i, aJ.l, aJ.b, aJ.t, aJ.ij, aJ.lj, aJ.bj, aJ.tj]); rw [FK (Nat.le_refl _), Yn _ _ hp ho]
  show (bif Lu ps os sp then _ else _) = _
  cases Lu ps os sp <;> rfl
 ·obtain ⟨a, b, c, d, u, e, hr, hu⟩ := Lx (h.2 _ (FB hi (z := [])))
  have xA := Rs hi hr
  rw [JR.Fy]; (try dsimp +instances only [gr, gi, gl, gb, gt, ui, ul, ub, ut, Ft, ln, EK, aJ.i, aJ.l, aJ.b, aJ.t, aJ.ij, aJ.lj, aJ.bj, aJ.tj]); rw [FJ hi, FG, decide_eq_true hi, FU (by omega), Int.toNat_natCast]
  unfold LR v0
  rw [hr]
  show (bif !decide (a = _) then _ else (JS.c ps b).bind _) = bif decide (a = _) && (has ps b && (within c 0 10000 && (_ && (decide (d = HN c sp) && Ks u os)))) && _ then _ else _
  rw [SA _ (by omega)]
  show (bif !decide (a = _) then _ else bif !(has ps b) then _ else (Li.c c).bind _) = _
  rw [PI]
  show (bif !decide (a = _) then _ else bif !(has ps b) then _ else bif !(within c 0 10000) then _ else _) = _
  cases decide (a = ((i + 1 : Nat) : Int))
  ·rfl
  cases has ps b
  ·rfl
  cases within c 0 10000
  ·rfl
  have tail : ((MG.c c sp).bind fun r5 => bif !decide (d = (r5.u 0 0).toInt) then (some ⟨[[.bool false]], []⟩) else ((Kj.c u os).bind fun r6 => bif !(r6.u 0 0).toBool then (some ⟨[[.bool false]], []⟩) else ((Jg.c xs b).bind fun r7 => bif decide ((↑(r7.u 0 0).bB.length : Int) > (1 : Int)) then (some ⟨[[.bool false]], []⟩) else (JR.l0 xs ((i + 1 : Nat) : Int) ps os sp)))) = bif decide (d = HN c sp) && Ks u os && decide (xs.countP (Hi b) ≤ 1) then JR.l0 xs ((i + 1 : Nat) : Int) ps os sp else rB false := by
   rw [Yg, Yo _ _ (by omega) (by omega), Yf _ (by omega)]
   show (bif !decide (d = HN c sp) then _ else bif !(Ks u os) then _ else bif decide (((ML xs b).length : Int) > 1) then _ else _) = _
   rw [SX]
   cases decide (d = HN c sp)
   ·rfl
   cases Ks u os
   ·rfl
   by_cases hd : xs.countP (Hi b) ≤ 1
   ·rw [decide_eq_true hd, decide_eq_false (by omega)]; rfl
   ·rw [decide_eq_false hd, decide_eq_true (by omega)]; rfl
  by_cases h0 : 0 < i
  ·rw [decide_eq_true (by omega : (i : Int) > 0), Rk (by omega) h0, FG, decide_eq_true (by omega), decide_eq_true h0]
   show (bif decide (((xs.getD (i - 1) []).getD 2 U0).toInt > c) then _ else _) = bif (!decide (((xs.getD (i - 1) []).getD 2 U0).toInt > c) && (decide (d = HN c sp) && Ks u os)) && _ then _ else _
   cases decide (((xs.getD (i - 1) []).getD 2 U0).toInt > c)
   ·exact tail
   ·rfl
  ·rw [decide_eq_false (by omega : ¬ (i : Int) > 0), decide_eq_false h0]
   exact tail
theorem WB (ps os : List (List U)) (sp : Int) (xs : List (List U)) (h : WR Fw.ct 94 xs) (hc : Fx xs ≤ 1048576) (hp : ps.length ≤ 1048576) (ho : os.length ≤ 1048576) : KG.c ps os sp xs = rB (LP ps os sp xs) := by
 have hl := FF xs
 rw [KG.eq]; (try dsimp +instances only [gr, gi, gl, gb, gt, ui, ul, ub, ut, Ft, ln, EK, aJ.i, aJ.l, aJ.b, aJ.t, aJ.ij, aJ.lj, aJ.bj, aJ.tj])
 refine Nv (l0 := fun i => KG.l0 xs xs _ i ps os sp) (n := xs.length) ?_ fun i hi => ?_
 ·rw [KG.Fy]; (try dsimp +instances only [gr, gi, gl, gb, gt, ui, ul, ub, ut, Ft, ln, EK, aJ.i, aJ.l, aJ.b, aJ.t, aJ.ij, aJ.lj, aJ.bj, aJ.tj]); rw [FK (Nat.le_refl _), WV _ _ hp ho]
  show (bif Lu ps os sp then _ else _) = _
  cases Lu ps os sp <;> rfl
 ·obtain ⟨a, b, c, d, u, e, hr, hu⟩ := Lx (h.2 _ (FB hi (z := [])))
  have xA := Rs hi hr
  have BY : (xs.take i).length = i := by rw [List.length_take]; omega
  have e0 : Int.toNat ((i : Int) - 0) = i := by omega
  have key : MW.c ps os sp a b c d u e (xs.take i) = rB (LR ps os sp xs i && (e || decide ((xs.take i).countP (Hi b) = 0))) := by
   rw [MW.eq]; (try dsimp +instances only [gr, gi, gl, gb, gt, ui, ul, ub, ut, Ft, ln, EK, aJ.i, aJ.l, aJ.b, aJ.t, aJ.ij, aJ.lj, aJ.bj, aJ.tj]); simp only [BY]; rw [FU (by omega), Sa _ (by omega), Rc]
   unfold LR v0
   rw [hr]
   show (bif !decide (a = _) then _ else bif !(has ps b) then _ else bif !(within c 0 10000) then _ else _) = rB (decide (a = _) && (has ps b && (within c 0 10000 && (_ && (decide (d = HN c sp) && Ks u os)))) && _)
   cases decide (a = ((i + 1 : Nat) : Int))
   ·rfl
   cases has ps b
   ·rfl
   cases within c 0 10000
   ·rfl
   have tail : ((My.c c sp).bind fun r5 => bif !decide (d = (r5.u 0 0).toInt) then (some ⟨[[.bool false]], []⟩) else ((ME.c u ps os sp).bind fun r6 => bif (r6.u 0 0).toBool then (some ⟨[[.bool false]], []⟩) else (bif e then (some ⟨[[.bool true]], []⟩) else ((Im.c (xs.take i) b).bind fun r7 => some ⟨[[.bool (decide ((↑(r7.u 0 0).bB.length : Int) = (0 : Int)))]], []⟩)))) = rB (decide (d = HN c sp) && Ks u os && (e || decide ((xs.take i).countP (Hi b) = 0))) := by
    rw [WL, WW _ _ _ _ (by omega) (by omega), WK _ (by omega)]
    show (bif !decide (d = HN c sp) then _ else bif !(Ks u os) then _ else bif e then _ else rB (decide (((ML (xs.take i) b).length : Int) = 0))) = _
    rw [SX]
    cases decide (d = HN c sp)
    ·rfl
    cases Ks u os
    ·rfl
    cases e
    ·show rB _ = rB _
     congr 1
     show decide _ = decide _
     rw [decide_eq_decide]; omega
    ·rfl
   by_cases h0 : 0 < i
   ·have e1 : (xs.take i).getD (i - 1) [] = xs.getD (i - 1) [] := by
     rw [List.getD_eq_getElem?_getD, List.getD_eq_getElem?_getD, List.getElem?_take, if_pos (by omega)]
    rw [decide_eq_true (by omega : (i : Int) > 0), Rk (by omega) h0, FG, decide_eq_true (by omega), decide_eq_true h0, Int.toNat_natCast, e1]
    show (bif decide (((xs.getD (i - 1) []).getD 2 U0).toInt > c) then _ else _) = rB ((!decide (((xs.getD (i - 1) []).getD 2 U0).toInt > c) && (decide (d = HN c sp) && Ks u os)) && _)
    cases decide (((xs.getD (i - 1) []).getD 2 U0).toInt > c)
    ·exact tail
    ·rfl
   ·rw [decide_eq_false (by omega : ¬ (i : Int) > 0), decide_eq_false h0]
    exact tail
  rw [KG.Fy]; (try dsimp +instances only [gr, gi, gl, gb, gt, ui, ul, ub, ut, Ft, ln, EK, aJ.i, aJ.l, aJ.b, aJ.t, aJ.ij, aJ.lj, aJ.bj, aJ.tj]); rw [FJ hi, FG, decide_eq_true hi, FU (by omega), Int.toNat_natCast, decide_eq_true (by omega), e0, hr]
  show ((MW.c ps os sp a b c d u e (xs.take i)).bind _) = bif LR ps os sp xs i && (e || decide ((xs.take i).countP (Hi b) = 0)) then _ else _
  rw [key]
  show (bif !(LR ps os sp xs i && _) then _ else _) = _
  cases (LR ps os sp xs i && (e || decide ((xs.take i).countP (Hi b) = 0))) <;> rfl
/-- At most one debt each: whether all are counted, or those before each. -/
theorem TB (q : Int → List U → Bool) (MC : List U → Int) (un : List U → Bool) (hq : ∀ p x, q p x = (decide (MC x = p) && un x)) : ∀ xs : List (List U), (∀ p, xs.countP (q p) ≤ 1) ↔ xs.Pairwise fun a b => ¬ (un a = true ∧ un b = true ∧ MC a = MC b)
 | [] => by simp
 | x :: xs => by
  rw [List.pairwise_cons, ← TB q MC un hq xs]
  simp only [List.countP_cons]
  constructor
  ·intro h
   refine ⟨fun b hb hx => ?_, fun p => by have := h p; omega⟩
   have h1 := h (MC x)
   rw [hq (MC x) x, decide_eq_true rfl, hx.1] at h1
   have : 0 < xs.countP (q (MC x)) := List.countP_pos_iff.2 ⟨b, hb, by rw [hq, hx.2.1, decide_eq_true hx.2.2.symm]; rfl⟩
   rw [Bool.and_true, if_pos rfl] at h1
   omega
  ·intro ⟨h1, h2⟩ p
   have := h2 p
   split
   ·rename_i hx
    rw [hq] at hx
    simp only [Bool.and_eq_true, decide_eq_true_eq] at hx
    have : xs.countP (q p) = 0 := List.countP_eq_zero.2 fun b hb tu => h1 b hb ⟨hx.2, by rw [hq] at tu; simp only [Bool.and_eq_true, decide_eq_true_eq] at tu; exact ⟨tu.2, hx.1.trans tu.1.symm⟩⟩
    omega
   ·omega
theorem UE (ps os : List (List U)) (sp : Int) (xs : List (List U)) : RB ps os sp xs = LP ps os sp xs := by
 unfold RB LP
 congr 1
 have hq : ∀ p x, Hi p x = (decide ((x.getD 1 U0).toInt = p) && !(x.getD 5 U0).toBool) := fun p x => rfl
 have H := TB Hi (fun x => (x.getD 1 U0).toInt) (fun x => !(x.getD 5 U0).toBool) hq xs
 have e : ∀ i (h : i < xs.length), xs.getD i [] = xs[i] := fun i h => by rw [List.getD_eq_getElem?_getD, List.getElem?_eq_getElem h]; rfl
 rw [Bool.eq_iff_iff, List.all_eq_true, List.all_eq_true]
 simp only [List.mem_range, Bool.and_eq_true, decide_eq_true_eq, Bool.or_eq_true]
 have A : (∀ i, i < xs.length → xs.countP (Hi ((xs.getD i []).getD 1 U0).toInt) ≤ 1) ↔ ∀ p, xs.countP (Hi p) ≤ 1 := by
  refine ⟨fun h p => ?_, fun h i hi => h _⟩
  by_cases hp : 0 < xs.countP (Hi p)
  ·obtain ⟨x, hx, h1⟩ := List.countP_pos_iff.1 hp
   obtain ⟨i, hi, rfl⟩ := List.mem_iff_getElem.1 hx
   have := h i hi
   rw [hq] at h1
   simp only [Bool.and_eq_true, decide_eq_true_eq] at h1
   rw [e i hi, h1.1] at this
   exact this
  ·omega
 have B : (∀ i, i < xs.length → ((xs.getD i []).getD 5 U0).toBool = true ∨ (xs.take i).countP (Hi ((xs.getD i []).getD 1 U0).toInt) = 0) ↔ xs.Pairwise fun a b => ¬ ((!(a.getD 5 U0).toBool) = true ∧ (!(b.getD 5 U0).toBool) = true ∧ (a.getD 1 U0).toInt = (b.getD 1 U0).toInt) := by
  rw [List.pairwise_iff_getElem]
  constructor
  ·intro h i j hi hj gk ⟨h1, h2, h3⟩
   rcases h j hj with h4 | h4
   ·rw [e j hj] at h4; rw [h4] at h2; cases h2
   ·have := List.countP_eq_zero.1 h4 xs[i] (List.mem_iff_getElem.2 ⟨i, by rw [List.length_take]; omega, by rw [List.getElem_take]⟩)
    rw [hq, e j hj, decide_eq_true h3, h1] at this
    exact this rfl
  ·intro h j hj
   cases hs : ((xs.getD j []).getD 5 U0).toBool with
   | true => exact .inl rfl
   | false =>
    refine .inr (List.countP_eq_zero.2 fun x hx h1 => ?_)
    obtain ⟨i, hi, rfl⟩ := List.mem_iff_getElem.1 hx
    rw [List.length_take] at hi
    rw [List.getElem_take, hq] at h1
    simp only [Bool.and_eq_true, decide_eq_true_eq] at h1
    refine h i j (by omega) hj (by omega) ⟨h1.2, ?_, ?_⟩
    ·rw [← e j hj, hs]; rfl
    ·rw [h1.1, e j hj]
 constructor
 ·intro h i hi
  exact ⟨(h i hi).1, B.2 (H.1 (A.1 fun i hi => (h i hi).2)) i hi⟩
 ·intro h i hi
  exact ⟨(h i hi).1, A.2 (H.2 (B.1 fun i hi => (h i hi).2)) i hi⟩
end Go.Proofs.YtaghmjcfaplkiaaGreat.Eng
/- half -/
