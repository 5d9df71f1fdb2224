/- What small functions compute: ranges, times, names, keys, facts, certificates, hashes. -/
import Derived.Test.YtbanfmadialnkaaGreatPN
import Derived.Test.YtbanfmadialnkaaGreatFAll
namespace Go.Proofs.YtbanfmadialnkaaGreat.Eng
open Go.RowKit
set_option linter.unusedVariables false
set_option linter.unusedSimpArgs false
set_option linter.unusedSectionVars false
set_option maxRecDepth 100000
variable [Sm]
abbrev v0 (x : List U) : Int := ui x 0
def within (a lo hi : Int) : Bool := decide (lo ≤ a) && decide (a ≤ hi)
theorem Ey {a lo hi : Int} (h : within a lo hi = true) : lo ≤ a ∧ a ≤ hi := by simpa [within] using h
theorem Vl {a lo hi : Int} (h : lo ≤ a) (h' : a ≤ hi) : within a lo hi = true := by simp [within, h, h']
theorem EI (a lo hi : Int) : DK.c a lo hi = rB (within a lo hi) := by simp only [DK.eq, cB, DR]; rfl
theorem Ez (a lo hi : Int) : DF.c a lo hi = rB (within a lo hi) := by simp only [DF.eq, cB, DR]; rfl
theorem Hh (a : Int) : DO.c a = rB (within a 0 10000) := by simp only [DO.eq, EI, q0, qb]
theorem Ie (a : Int) : EP.c a = rB (within a 0 10000) := by simp only [EP.eq, Ez, q0, qb]
theorem UK (a : Int) : LP.c a = rB (within a 10 49) := by simp only [LP.eq, EI, q0, qb]
theorem Tz (a : Int) : Ky.c a = rB (within a 10 49) := by simp only [Ky.eq, Ez, q0, qb]
theorem SG (a : Int) : KT.c a = rB (within a 1 2147483646) := by simp only [KT.eq, EI, q0, qb]
theorem RR (a : Int) : KA.c a = rB (within a 1 2147483646) := by simp only [KA.eq, Ez, q0, qb]
def EL (a k : Int) : Bool := within a 10 49 && decide (a.tdiv 10 = k)
theorem Vm {a : Int} (h : within a 10 49 = true) : CX (a.tdiv 10) = a.tdiv 10 := by
 obtain ⟨h1, h2⟩ := Ey h
 rw [Int.tdiv_eq_ediv_of_nonneg (by omega), Jc (by omega) (by omega)]
theorem LJ (a k : Int) : GM.c a k = rB (EL a k) := by
 simp only [GM.eq, UK, q0, qb, cB, DR]
 unfold EL
 cases h : within a 10 49
 ·rfl
 ·rw [Vm h]
theorem MA (a k : Int) : GP.c a k = rB (EL a k) := by
 simp only [GP.eq, Qk.eq, Tz, q0, qb]
 unfold EL
 cases h : within a 10 49
 ·rfl
 ·simp only [Vm h]; rfl
def Lx (a b t : Int) : Bool := within a 0 10000 && (within b 0 10000 && (within t 0 10000 && within t a b))
theorem UX (a b t : Int) : LR.c a b t = rB (Lx a b t) := by simp only [LR.eq, Hh, q0, qb, cB, DR]; rfl
theorem TJ (a b t : Int) : Lq.c a b t = rB (Lx a b t) := by simp only [Lq.eq, Ie, Ez, q0, qb, cB, DR]; rfl
def KX (a b : Int) : Int := bif within a 0 10000 then (bif within b 0 10000 then (bif decide (a > b) then -1 else CX (b - a)) else -1) else -1
theorem ZU (a b : Int) : OU.c a b = rI (KX a b) := by simp only [OU.eq, Hh, q0, qb, FW, cI]; rfl
theorem Xp (a b : Int) : MB.c a b = rI (KX a b) := by simp only [MB.eq, Ie, q0, qb, FW, cI]; rfl
theorem Vs {a b : Int} (h1 : within a 0 10000 = true) (h2 : within b 0 10000 = true) (h : a ≤ b) : KX a b = b - a := by
 unfold KX
 obtain ⟨h3, h4⟩ := Ey h1
 obtain ⟨h5, h6⟩ := Ey h2
 rw [h1, h2, decide_eq_false (by omega)]
 exact Jc (by omega) (by omega)
def SN (a b m : Int) : Bool := decide (0 ≤ KX a b) && decide (KX a b ≤ m)
theorem aaw (a b m : Int) : Pd.c a b m = rB (SN a b m) := by simp only [Pd.eq, ZU, q0, qi, cB, DR]; rfl
def Tb (k s v : Int) : Bool := bif decide (k = 1) then (EL s 1 && within v 0 5) else bif decide (k = 2) then (EL s 1 && EL v 2) else bif decide (k = 3) then (EL s 2 && within v 0 3) else (decide (k = 4) && (EL s 3 && within v 0 3))
def JE (k s v i a u : Int) : Bool := Tb k s v && (within i 0 9 && (within a 0 10000 && (within u 0 10000 && decide (a ≤ u))))
theorem Tw (k s v i a u : Int) : Ln.c k s v i a u = rB (JE k s v i a u) := by
 simp only [Ln.eq, Qt.eq, MA, Ez, Ie, q0, qb, cB, DR]; rfl
theorem UG (k s v i a u : Int) : LO.c k s v i a u = rB (JE k s v i a u) := by
 simp only [LO.eq, LJ, EI, Hh, q0, qb, cB, DR]
 unfold JE Tb
 cases decide (k = 1) <;> cases decide (k = 2) <;> cases decide (k = 3) <;> cases decide (k = 4) <;> simp only [cond_true, cond_false, Bool.and_assoc, Bool.false_and, Bool.true_and]
def JD (k s v i a u now DE : Int) : Bool := JE k s v i a u && (Lx a u now && SN a now DE)
theorem SF (k s v i a u now DE : Int) : KQ.c k s v i a u now DE = rB (JD k s v i a u now DE) := by
 simp only [KQ.eq, UG, UX, aaw, q0, qb, cB, DR]; rfl
theorem RQ (k s v i a u now DE : Int) : Kw.c k s v i a u now DE = rB (JD k s v i a u now DE) := by
 simp only [Kw.eq, Tw, TJ, Xp, q0, qb, qi, cB, DR]
 unfold JD
 cases hw : Lx a u now
 ·rfl
 ·unfold Lx at hw
  simp only [Bool.and_eq_true] at hw
  obtain ⟨h1, h2, h3, h4⟩ := hw
  obtain ⟨h5, h6⟩ := Ey h4
  unfold SN
  rw [Vs h1 h3 h5, decide_eq_true (show 0 ≤ now - a by omega)]; rfl
/-- The fact of a row. -/
def Lc (x : List U) (now DE : Int) : Bool := JD (ui x 0) (ui x 1) (ui x 2) (ui x 3) (ui x 4) (ui x 5) now DE
def Lu (s b k f u : Int) : Bool := within s 1 9999 && (within b 10 49 && (within k 1 2147483646 && (within f 0 10000 && (within u 0 10000 && within (CX (u - f)) 0 50))))
theorem XC (s b k f u m : Int) : MK.c s b k f u m = rB (Lu s b k f u) := by
 simp only [MK.eq, Ez, Tz, RR, Ie, q0, qb, cB, DR]; rfl
theorem aah (s b k f u m : Int) : Pb.c s b k f u m = rB (Lu s b k f u) := by
 simp only [Pb.eq, EI, UK, SG, Hh, q0, qb, cB, DR]
 unfold Lu
 cases h1 : within f 0 10000
 ·simp
 cases h2 : within u 0 10000
 ·simp
 obtain ⟨h3, h4⟩ := Ey h1
 obtain ⟨h5, h6⟩ := Ey h2
 have e : CX (u - f) = u - f := Jc (by omega) (by omega)
 have e2 : (decide (f ≤ u) && decide (CX (u - f) ≤ 50)) = within (CX (u - f)) 0 50 := by
  rw [e]; unfold within
  rw [show decide (f ≤ u) = decide (0 ≤ u - f) from by rw [decide_eq_decide]; omega]
 rw [e2]
/-! ### Hashes -/
def md (n : Int) : Int := (CX (n.tmod 2147483647 + 2147483647)).tmod 2147483647
theorem aaF (n : Int) : Pj.c n 2147483647 = rI (md n) := by simp only [Pj.eq, EI, q0, qb]; rfl
theorem Ya (n : Int) : MS.c n 2147483647 = rI (md n) := by simp only [MS.eq, Ez, q0, qb]; rfl
def kI (d : Int) (x : List U) : Int := (CX (CX (CX (d * 1000003) + md (v0 x)) + 13)).tmod 2147483647
def Lg (xs : LL) : Int := xs.foldl kI 11
theorem UH (xs : LL) (hx : xs.length ≤ 4611686018427387904) : GZ.c xs = rI (Lg xs) := by
 rw [GZ.eq]
 refine JC (l0 := fun s i => GZ.l0 xs s i) (R := rI) (st := kI) (fun s => ?_) (fun i hi s => ?_) 11
 ·rw [GZ.CZ, Dq (Nat.le_refl _)]; rfl
 ·show _ = _
  rw [GZ.CZ, Dr hi, DB hi, aaF, DG (by omega)]; rfl
theorem Ty (xs : LL) (hx : xs.length ≤ 4611686018427387904) : GQ.c xs = rI (Lg xs) := by
 rw [GQ.eq]
 refine JC (l0 := fun s i => GQ.l0 s xs _ i) (R := rI) (st := kI) (fun s => ?_) (fun i hi s => ?_) 11
 ·rw [GQ.CZ, Dq (Nat.le_refl _)]; rfl
 ·show _ = _
  rw [GQ.CZ, Dr hi, DB hi, Ya, DG (by omega)]; rfl
def Sb (k : Int) (xs : LL) : Int := Lg ([[U.int k]] ++ xs ++ [[U.int k]])
theorem aaA (k : Int) (xs : LL) (hx : xs.length ≤ 1048576) : Pf.c k xs = rI (Sb k xs) := by
 rw [Pf.eq, Le (DM (by simp; omega) (by simp; omega)), Le (DM (by simp; omega) (by simp; omega)), UH _ (by simp; omega)]; rfl
theorem XV (k : Int) (xs : LL) (hx : xs.length ≤ 1048576) : MP.c k xs = rI (Sb k xs) := by
 have h : Eh.c [[U.CY [[U.int k]]], [U.CY xs], [U.CY [[U.int k]]]] = rL ([[U.int k]] ++ xs ++ [[U.int k]]) := by
  have e1 : CX (0 + 1) = 1 := by decide
  have e2 : CX (1 + 1) = 2 := by decide
  have e3 : CX (2 + 1) = 3 := by decide
  have f1 : CX (1 + (xs.length : Int)) = ((xs.length + 1 : Nat) : Int) := by rw [show CX (1 + (xs.length : Int)) = 1 + (xs.length : Int) from Jc (by omega) (by omega)]; omega
  have f2 : CX (((xs.length + 1 : Nat) : Int) + 1) = ((xs.length + 2 : Nat) : Int) := DG (by omega)
  have d1 : decide ((1 : Int) < 0) = false := by decide
  have d2 : decide ((((xs.length + 1 : Nat) : Int)) < 0) = false := decide_eq_false (by omega)
  have d3 : decide ((((xs.length + 2 : Nat) : Int)) < 0) = false := decide_eq_false (by omega)
  have l1 : Eh.l1 [[U.CY [[U.int k]]], [U.CY xs], [U.CY [[U.int k]]]] 3 0 [] = rL ([[U.int k]] ++ xs ++ [[U.int k]]) := by
   rw [Eh.DS]
   show Cu (room (0 + 1) 8) (Eh.l1 _ 3 (CX (0 + 1)) ([] ++ [[U.int k]])) = _
   rw [Le (by decide), e1, Eh.DS]
   show Cu (room (1 + xs.length) 8) (Eh.l1 _ 3 (CX (1 + 1)) ([] ++ [[U.int k]] ++ xs)) = _
   rw [Le (DM (by omega) (by omega)), e2, Eh.DS]
   show Cu (room (([] ++ [[U.int k]] ++ xs).length + 1) 8) (Eh.l1 _ 3 (CX (2 + 1)) ([] ++ [[U.int k]] ++ xs ++ [[U.int k]])) = _
   rw [Le (DM (by simp; omega) (by simp; omega)), e3, Eh.DS]
   rfl
  rw [Eh.eq, Eh.CZ]
  show (bif decide (CX (0 + 1) < 0) then none else Eh.l0 _ (CX (0 + 1)) _ 3 (CX (0 + 1))) = _
  rw [e1, d1, cond_false, Eh.CZ]
  show (bif decide (CX (1 + (xs.length : Int)) < 0) then none else Eh.l0 _ (CX (1 + (xs.length : Int))) _ 3 (CX (1 + 1))) = _
  rw [f1, d2, cond_false, e2, Eh.CZ]
  show (bif decide (CX (((xs.length + 1 : Nat) : Int) + 1) < 0) then none else Eh.l0 _ (CX (((xs.length + 1 : Nat) : Int) + 1)) _ 3 (CX (2 + 1))) = _
  rw [f2, d3, cond_false, e3, Eh.CZ]
  show Cu (decide ((0 : Int) ≤ ((xs.length + 2 : Nat) : Int)) && room (((xs.length + 2 : Nat) : Int)).toNat 8) (Eh.l1 _ 3 0 []) = _
  rw [Int.toNat_natCast, Le (by rw [DM (by omega) (by omega), decide_eq_true (by omega)]; rfl), l1]
 rw [MP.eq, h]
 simp only [q0, ql]
 rw [Ty _ (by simp; omega)]; rfl
/-- A certificate is what it was marked as. -/
def Mh (k s b y f u : Int) : Int := Sb k [[U.int s], [U.int b], [U.int y], [U.int f], [U.int u]]
theorem aaC (k s b y f u m : Int) : Ph.c k s b y f u m = some ⟨[[.int s, .int b, .int y, .int f, .int u, .int (Mh k s b y f u)]], []⟩ := by
 rw [Ph.eq, aaA _ _ (by simp)]; rfl
theorem XX (k s b y f u m : Int) : MR.c k s b y f u m = some ⟨[[.int s, .int b, .int y, .int f, .int u, .int (Mh k s b y f u)]], []⟩ := by
 rw [MR.eq, XV _ _ (by simp)]; rfl
end Go.Proofs.YtbanfmadialnkaaGreat.Eng
/- half -/
