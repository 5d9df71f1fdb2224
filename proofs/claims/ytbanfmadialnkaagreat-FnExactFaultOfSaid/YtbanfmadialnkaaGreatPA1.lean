/- What small functions compute: ranges, times, names, keys, facts, certificates, hashes. -/
import Derived.Test.YtbanfmadialnkaaGreatPN
import Derived.Test.YtbanfmadialnkaaGreatFAll
namespace Go.Proofs.YtbanfmadialnkaaGreat.Eng
open Go.RowKit
set_option linter.unusedVariables false
set_option linter.unusedSimpArgs false
set_option linter.unusedSectionVars false
set_option maxRecDepth 100000
variable [Sm]
abbrev v0 (x : List U) : Int := ui x 0
def within (a lo hi : Int) : Bool := decide (lo ≤ a) && decide (a ≤ hi)
theorem dV {a lo hi : Int} (h : within a lo hi = true) : lo ≤ a ∧ a ≤ hi := by simpa [within] using h
theorem HE {a lo hi : Int} (h : lo ≤ a) (h' : a ≤ hi) : within a lo hi = true := by simp [within, h, h']
theorem eD (a lo hi : Int) : cj.c a lo hi = rB (within a lo hi) := by simp only [cj.eq, cB, cJ]; rfl
theorem dZ (a lo hi : Int) : bE.c a lo hi = rB (within a lo hi) := by simp only [bE.eq, cB, cJ]; rfl
theorem jj (a : Int) : cA.c a = rB (within a 0 10000) := by simp only [cA.eq, eD, q0, qb]
theorem lf (a : Int) : eS.c a = rB (within a 0 10000) := by simp only [eS.eq, dZ, q0, qb]
theorem HF (a : Int) : tJ.c a = rB (within a 10 49) := by simp only [tJ.eq, eD, q0, qb]
theorem HG (a : Int) : rq.c a = rB (within a 10 49) := by simp only [rq.eq, dZ, q0, qb]
theorem DC (a : Int) : ru.c a = rB (within a 1 2147483646) := by simp only [ru.eq, eD, q0, qb]
theorem DD (a : Int) : ry.c a = rB (within a 1 2147483646) := by simp only [ry.eq, dZ, q0, qb]
def eL (a k : Int) : Bool := within a 10 49 && decide (a.tdiv 10 = k)
theorem HH {a : Int} (h : within a 10 49 = true) : ab (a.tdiv 10) = a.tdiv 10 := by
 obtain ⟨h1, h2⟩ := dV h
 rw [Int.tdiv_eq_ediv_of_nonneg (by omega), mh (by omega) (by omega)]
theorem tF (a k : Int) : gP.c a k = rB (eL a k) := by
 simp only [gP.eq, HF, q0, qb, cB, cJ]
 unfold eL
 cases h : within a 10 49
 ·rfl
 ·rw [HH h]
theorem wo (a k : Int) : iP.c a k = rB (eL a k) := by
 simp only [iP.eq, Ba.eq, HG, q0, qb]
 unfold eL
 cases h : within a 10 49
 ·rfl
 ·simp only [HH h]; rfl
def tK (a b t : Int) : Bool := within a 0 10000 && (within b 0 10000 && (within t 0 10000 && within t a b))
theorem HI (a b t : Int) : tL.c a b t = rB (tK a b t) := by simp only [tL.eq, jj, q0, qb, cB, cJ]; rfl
theorem HJ (a b t : Int) : tM.c a b t = rB (tK a b t) := by simp only [tM.eq, lf, dZ, q0, qb, cB, cJ]; rfl
def tN (a b : Int) : Int := bif within a 0 10000 then (bif within b 0 10000 then (bif decide (a > b) then -1 else ab (b - a)) else -1) else -1
theorem NS (a b : Int) : wv.c a b = rI (tN a b) := by simp only [wv.eq, jj, q0, qb, gL, cI]; rfl
theorem NT (a b : Int) : wx.c a b = rI (tN a b) := by simp only [wx.eq, lf, q0, qb, gL, cI]; rfl
theorem NU {a b : Int} (h1 : within a 0 10000 = true) (h2 : within b 0 10000 = true) (h : a ≤ b) : tN a b = b - a := by
 unfold tN
 obtain ⟨h3, h4⟩ := dV h1
 obtain ⟨h5, h6⟩ := dV h2
 rw [h1, h2, decide_eq_false (by omega)]
 exact mh (by omega) (by omega)
def DE (a b m : Int) : Bool := decide (0 ≤ tN a b) && decide (tN a b ≤ m)
theorem NV (a b m : Int) : wy.c a b m = rB (DE a b m) := by simp only [wy.eq, NS, q0, qi, cB, cJ]; rfl
def HK (k s v : Int) : Bool := bif decide (k = 1) then (eL s 1 && within v 0 5) else bif decide (k = 2) then (eL s 1 && eL v 2) else bif decide (k = 3) then (eL s 2 && within v 0 3) else (decide (k = 4) && (eL s 3 && within v 0 3))
def oz (k s v i a u : Int) : Bool := HK k s v && (within i 0 9 && (within a 0 10000 && (within u 0 10000 && decide (a ≤ u))))
theorem HL (k s v i a u : Int) : tO.c k s v i a u = rB (oz k s v i a u) := by
 simp only [tO.eq, Bb.eq, wo, dZ, lf, q0, qb, cB, cJ]; rfl
theorem HM (k s v i a u : Int) : tP.c k s v i a u = rB (oz k s v i a u) := by
 simp only [tP.eq, tF, eD, jj, q0, qb, cB, cJ]
 unfold oz HK
 cases decide (k = 1) <;> cases decide (k = 2) <;> cases decide (k = 3) <;> cases decide (k = 4) <;> simp only [cond_true, cond_false, Bool.and_assoc, Bool.false_and, Bool.true_and]
def oy (k s v i a u now bD : Int) : Bool := oz k s v i a u && (tK a u now && DE a now bD)
theorem DA (k s v i a u now bD : Int) : rz.c k s v i a u now bD = rB (oy k s v i a u now bD) := by
 simp only [rz.eq, HM, HI, NV, q0, qb, cB, cJ]; rfl
theorem DB (k s v i a u now bD : Int) : rA.c k s v i a u now bD = rB (oy k s v i a u now bD) := by
 simp only [rA.eq, HL, HJ, NT, q0, qb, qi, cB, cJ]
 unfold oy
 cases hw : tK a u now
 ·rfl
 ·unfold tK at hw
  simp only [Bool.and_eq_true] at hw
  obtain ⟨h1, h2, h3, h4⟩ := hw
  obtain ⟨h5, h6⟩ := dV h4
  unfold DE
  rw [NU h1 h3 h5, decide_eq_true (show 0 ≤ now - a by omega)]; rfl
/-- The fact of a row. -/
def tH (x : List U) (now bD : Int) : Bool := oy (ui x 0) (ui x 1) (ui x 2) (ui x 3) (ui x 4) (ui x 5) now bD
def tQ (s b k f u : Int) : Bool := within s 1 9999 && (within b 10 49 && (within k 1 2147483646 && (within f 0 10000 && (within u 0 10000 && within (ab (u - f)) 0 50))))
theorem NW (s b k f u m : Int) : wz.c s b k f u m = rB (tQ s b k f u) := by
 simp only [wz.eq, dZ, HG, DD, lf, q0, qb, cB, cJ]; rfl
theorem NX (s b k f u m : Int) : wA.c s b k f u m = rB (tQ s b k f u) := by
 simp only [wA.eq, eD, HF, DC, jj, q0, qb, cB, cJ]
 unfold tQ
 cases h1 : within f 0 10000
 ·simp
 cases h2 : within u 0 10000
 ·simp
 obtain ⟨h3, h4⟩ := dV h1
 obtain ⟨h5, h6⟩ := dV h2
 have e : ab (u - f) = u - f := mh (by omega) (by omega)
 have e2 : (decide (f ≤ u) && decide (ab (u - f) ≤ 50)) = within (ab (u - f)) 0 50 := by
  rw [e]; unfold within
  rw [show decide (f ≤ u) = decide (0 ≤ u - f) from by rw [decide_eq_decide]; omega]
 rw [e2]
/-! ### Hashes -/
def md (n : Int) : Int := (ab (n.tmod 2147483647 + 2147483647)).tmod 2147483647
theorem NY (n : Int) : wB.c n 2147483647 = rI (md n) := by simp only [wB.eq, eD, q0, qb]; rfl
theorem NZ (n : Int) : wC.c n 2147483647 = rI (md n) := by simp only [wC.eq, dZ, q0, qb]; rfl
def mi (d : Int) (x : List U) : Int := (ab (ab (ab (d * 1000003) + md (v0 x)) + 13)).tmod 2147483647
def tR (xs : LL) : Int := xs.foldl mi 11
theorem HN (xs : LL) (hx : xs.length ≤ 4611686018427387904) : iQ.c xs = rI (tR xs) := by
 rw [iQ.eq]
 refine ox (l0 := fun s i => iQ.l0 xs s i) (R := rI) (st := mi) (fun s => ?_) (fun i hi s => ?_) 11
 ·rw [iQ.ah, aQ (Nat.le_refl _)]; rfl
 ·show _ = _
  rw [iQ.ah, aR hi, bo hi, NY, bH (by omega)]; rfl
theorem HO (xs : LL) (hx : xs.length ≤ 4611686018427387904) : iR.c xs = rI (tR xs) := by
 rw [iR.eq]
 refine ox (l0 := fun s i => iR.l0 s xs _ i) (R := rI) (st := mi) (fun s => ?_) (fun i hi s => ?_) 11
 ·rw [iR.ah, aQ (Nat.le_refl _)]; rfl
 ·show _ = _
  rw [iR.ah, aR hi, bo hi, NZ, bH (by omega)]; rfl
def DF (k : Int) (xs : LL) : Int := tR ([[U.int k]] ++ xs ++ [[U.int k]])
theorem N0 (k : Int) (xs : LL) (hx : xs.length ≤ 1048576) : wD.c k xs = rI (DF k xs) := by
 rw [wD.eq, tS (cu (by simp; omega) (by simp; omega)), tS (cu (by simp; omega) (by simp; omega)), HN _ (by simp; omega)]; rfl
theorem N1 (k : Int) (xs : LL) (hx : xs.length ≤ 1048576) : wE.c k xs = rI (DF k xs) := by
 have h : dt.c [[U.af [[U.int k]]], [U.af xs], [U.af [[U.int k]]]] = rL ([[U.int k]] ++ xs ++ [[U.int k]]) := by
  have e1 : ab (0 + 1) = 1 := by decide
  have e2 : ab (1 + 1) = 2 := by decide
  have e3 : ab (2 + 1) = 3 := by decide
  have f1 : ab (1 + (xs.length : Int)) = ((xs.length + 1 : Nat) : Int) := by rw [show ab (1 + (xs.length : Int)) = 1 + (xs.length : Int) from mh (by omega) (by omega)]; omega
  have f2 : ab (((xs.length + 1 : Nat) : Int) + 1) = ((xs.length + 2 : Nat) : Int) := bH (by omega)
  have d1 : decide ((1 : Int) < 0) = false := by decide
  have d2 : decide ((((xs.length + 1 : Nat) : Int)) < 0) = false := decide_eq_false (by omega)
  have d3 : decide ((((xs.length + 2 : Nat) : Int)) < 0) = false := decide_eq_false (by omega)
  have l1 : dt.l1 [[U.af [[U.int k]]], [U.af xs], [U.af [[U.int k]]]] 3 0 [] = rL ([[U.int k]] ++ xs ++ [[U.int k]]) := by
   rw [dt.cH]
   show ae (room (0 + 1) 8) (dt.l1 _ 3 (ab (0 + 1)) ([] ++ [[U.int k]])) = _
   rw [tS (by decide), e1, dt.cH]
   show ae (room (1 + xs.length) 8) (dt.l1 _ 3 (ab (1 + 1)) ([] ++ [[U.int k]] ++ xs)) = _
   rw [tS (cu (by omega) (by omega)), e2, dt.cH]
   show ae (room (([] ++ [[U.int k]] ++ xs).length + 1) 8) (dt.l1 _ 3 (ab (2 + 1)) ([] ++ [[U.int k]] ++ xs ++ [[U.int k]])) = _
   rw [tS (cu (by simp; omega) (by simp; omega)), e3, dt.cH]
   rfl
  rw [dt.eq, dt.ah]
  show (bif decide (ab (0 + 1) < 0) then none else dt.l0 _ (ab (0 + 1)) _ 3 (ab (0 + 1))) = _
  rw [e1, d1, cond_false, dt.ah]
  show (bif decide (ab (1 + (xs.length : Int)) < 0) then none else dt.l0 _ (ab (1 + (xs.length : Int))) _ 3 (ab (1 + 1))) = _
  rw [f1, d2, cond_false, e2, dt.ah]
  show (bif decide (ab (((xs.length + 1 : Nat) : Int) + 1) < 0) then none else dt.l0 _ (ab (((xs.length + 1 : Nat) : Int) + 1)) _ 3 (ab (2 + 1))) = _
  rw [f2, d3, cond_false, e3, dt.ah]
  show ae (decide ((0 : Int) ≤ ((xs.length + 2 : Nat) : Int)) && room (((xs.length + 2 : Nat) : Int)).toNat 8) (dt.l1 _ 3 0 []) = _
  rw [Int.toNat_natCast, tS (by rw [cu (by omega) (by omega), decide_eq_true (by omega)]; rfl), l1]
 rw [wE.eq, h]
 simp only [q0, ql]
 rw [HO _ (by simp; omega)]; rfl
/-- A certificate is what it was marked as. -/
def wF (k s b y f u : Int) : Int := DF k [[U.int s], [U.int b], [U.int y], [U.int f], [U.int u]]
theorem N2 (k s b y f u m : Int) : wG.c k s b y f u m = some ⟨[[.int s, .int b, .int y, .int f, .int u, .int (wF k s b y f u)]], []⟩ := by
 rw [wG.eq, N0 _ _ (by simp)]; rfl
theorem N3 (k s b y f u m : Int) : wH.c k s b y f u m = some ⟨[[.int s, .int b, .int y, .int f, .int u, .int (wF k s b y f u)]], []⟩ := by
 rw [wH.eq, N1 _ _ (by simp)]; rfl
end Go.Proofs.YtbanfmadialnkaaGreat.Eng
/- half -/
