/- What small functions compute: ranges, times, names, keys, facts, certificates, hashes. -/
import Derived.Test.YtbanfmadialnkaaGreatPN
import Derived.Test.YtbanfmadialnkaaGreatFAll
namespace Go.Proofs.YtbanfmadialnkaaGreat.Eng
open Go.RowKit
set_option linter.unusedVariables false
set_option linter.unusedSimpArgs false
set_option linter.unusedSectionVars false
set_option maxRecDepth 100000
variable [Sm]
abbrev v0 (x : List U) : Int := ui x 0
def within (a lo hi : Int) : Bool := decide (lo ≤ a) && decide (a ≤ hi)
theorem En {a lo hi : Int} (h : within a lo hi = true) : lo ≤ a ∧ a ≤ hi := by simpa [within] using h
theorem acs {a lo hi : Int} (h : lo ≤ a) (h' : a ≤ hi) : within a lo hi = true := by simp [within, h, h']
theorem IU (a lo hi : Int) : Ek.c a lo hi = rB (within a lo hi) := by simp only [Ek.eq, cB, Er]; rfl
theorem Hv (a lo hi : Int) : DF.c a lo hi = rB (within a lo hi) := by simp only [DF.eq, cB, Er]; rfl
theorem Nb (a : Int) : Ey.c a = rB (within a 0 10000) := by simp only [Ey.eq, IU, q0, qb]
theorem NY (a : Int) : IL.c a = rB (within a 0 10000) := by simp only [IL.eq, Hv, q0, qb]
theorem Vw (a : Int) : Nf.c a = rB (within a 10 49) := by simp only [Nf.eq, IU, q0, qb]
theorem Ut (a : Int) : LV.c a = rB (within a 10 49) := by simp only [LV.eq, Hv, q0, qb]
theorem aaM (a : Int) : Qo.c a = rB (within a 1 2147483646) := by simp only [Qo.eq, IU, q0, qb]
theorem YT (a : Int) : On.c a = rB (within a 1 2147483646) := by simp only [On.eq, Hv, q0, qb]
def Io (a k : Int) : Bool := within a 10 49 && decide (a.tdiv 10 = k)
theorem VR {a : Int} (h : within a 10 49 = true) : CX (a.tdiv 10) = a.tdiv 10 := by
 obtain ⟨h1, h2⟩ := En h
 rw [Int.tdiv_eq_ediv_of_nonneg (by omega), Ij (by omega) (by omega)]
theorem TE (a k : Int) : IW.c a k = rB (Io a k) := by
 simp only [IW.eq, Vw, q0, qb, cB, Er]
 unfold Io
 cases h : within a 10 49
 ·rfl
 ·rw [VR h]
theorem SN (a k : Int) : IK.c a k = rB (Io a k) := by
 simp only [IK.eq, RB.eq, Ut, q0, qb]
 unfold Io
 cases h : within a 10 49
 ·rfl
 ·simp only [VR h]; rfl
def MJ (a b t : Int) : Bool := within a 0 10000 && (within b 0 10000 && (within t 0 10000 && within t a b))
theorem VD (a b t : Int) : Nh.c a b t = rB (MJ a b t) := by simp only [Nh.eq, Nb, q0, qb, cB, Er]; rfl
theorem UA (a b t : Int) : MC.c a b t = rB (MJ a b t) := by simp only [MC.eq, NY, Hv, q0, qb, cB, Er]; rfl
def Ja (a b : Int) : Int := bif within a 0 10000 then (bif within b 0 10000 then (bif decide (a > b) then -1 else CX (b - a)) else -1) else -1
theorem aan (a b : Int) : Qe.c a b = rI (Ja a b) := by simp only [Qe.eq, Nb, q0, qb, LN, cI]; rfl
theorem Un (a b : Int) : Mz.c a b = rI (Ja a b) := by simp only [Mz.eq, NY, q0, qb, LN, cI]; rfl
theorem We (a b : Int) : Ja a b = -1 ∨ (0 ≤ Ja a b ∧ Ja a b = b - a ∧ within a 0 10000 = true ∧ within b 0 10000 = true ∧ a ≤ b) := by
 unfold Ja
 cases h1 : within a 0 10000
 ·exact .inl rfl
 cases h2 : within b 0 10000
 ·exact .inl rfl
 obtain ⟨h3, h4⟩ := En h1
 obtain ⟨h5, h6⟩ := En h2
 by_cases h : a > b
 ·rw [decide_eq_true h]; exact .inl rfl
 ·rw [decide_eq_false h]
  right
  have : CX (b - a) = b - a := Ij (by omega) (by omega)
  simp only [cond_true, cond_false, this]
  exact ⟨by omega, trivial, trivial, trivial, by omega⟩
theorem Wf {a b : Int} (h1 : within a 0 10000 = true) (h2 : within b 0 10000 = true) (h : a ≤ b) : Ja a b = b - a := by
 unfold Ja
 obtain ⟨h3, h4⟩ := En h1
 obtain ⟨h5, h6⟩ := En h2
 rw [h1, h2, decide_eq_false (by omega)]
 exact Ij (by omega) (by omega)
def IZ (a b m : Int) : Bool := decide (0 ≤ Ja a b) && decide (Ja a b ≤ m)
theorem Vu (a b m : Int) : Nd.c a b m = rB (IZ a b m) := by simp only [Nd.eq, aan, q0, qi, cB, Er]; rfl
theorem YO (a b m : Int) : Ol.c a b m = rB (IZ a b m) := by
 simp only [Ol.eq, Un, q0, qi, cB, Er]
 show rB (!decide (Ja a b = -1) && decide (Ja a b ≤ m)) = _
 unfold IZ
 rcases We a b with h | ⟨h, _⟩
 ·rw [h]; rfl
 ·rw [decide_eq_true h, decide_eq_false (show ¬ Ja a b = -1 by omega)]; rfl
def TS (k s v : Int) : Bool := bif decide (k = 1) then (Io s 1 && within v 0 5) else bif decide (k = 2) then (Io s 1 && Io v 2) else bif decide (k = 3) then (Io s 2 && within v 0 3) else (decide (k = 4) && (Io s 3 && within v 0 3))
def RJ (k s v i a u : Int) : Bool := TS k s v && (within i 0 9 && (within a 0 10000 && (within u 0 10000 && decide (a ≤ u))))
theorem YL (k s v i a u : Int) : Oi.c k s v i a u = rB (RJ k s v i a u) := by
 simp only [Oi.eq, RG.eq, SN, Hv, NY, q0, qb, cB, Er]; rfl
theorem aaG (k s v i a u : Int) : Ql.c k s v i a u = rB (RJ k s v i a u) := by
 simp only [Ql.eq, TE, IU, Nb, q0, qb, cB, Er]
 unfold RJ TS
 cases decide (k = 1) <;> cases decide (k = 2) <;> cases decide (k = 3) <;> cases decide (k = 4) <;> simp only [cond_true, cond_false, Bool.and_assoc, Bool.false_and, Bool.true_and]
def KD (k s v i a u now DB : Int) : Bool := RJ k s v i a u && (MJ a u now && IZ a now DB)
theorem TC (k s v i a u now DB : Int) : Mi.c k s v i a u now DB = rB (KD k s v i a u now DB) := by
 simp only [Mi.eq, aaG, VD, Vu, q0, qb, cB, Er]; rfl
theorem SM (k s v i a u now DB : Int) : LS.c k s v i a u now DB = rB (KD k s v i a u now DB) := by
 simp only [LS.eq, YL, UA, Un, q0, qb, qi, cB, Er]
 unfold KD
 cases hw : MJ a u now
 ·rfl
 ·unfold MJ at hw
  simp only [Bool.and_eq_true] at hw
  obtain ⟨h1, h2, h3, h4⟩ := hw
  obtain ⟨h5, h6⟩ := En h4
  unfold IZ
  rw [Wf h1 h3 h5, decide_eq_true (show 0 ≤ now - a by omega)]; rfl
/-- The fact of a row. -/
def Mu (x : List U) (now DB : Int) : Bool := KD (ui x 0) (ui x 1) (ui x 2) (ui x 3) (ui x 4) (ui x 5) now DB
def RH (s b k f u : Int) : Bool := within s 1 9999 && (within b 10 49 && (within k 1 2147483646 && (within f 0 10000 && (within u 0 10000 && within (CX (u - f)) 0 50))))
theorem Yx (s b k f u m : Int) : Og.c s b k f u m = rB (RH s b k f u) := by
 simp only [Og.eq, Hv, Ut, YT, NY, q0, qb, cB, Er]; rfl
theorem aas (s b k f u m : Int) : Qj.c s b k f u m = rB (RH s b k f u) := by
 simp only [Qj.eq, IU, Vw, aaM, Nb, q0, qb, cB, Er]
 unfold RH
 cases h1 : within f 0 10000
 ·simp
 cases h2 : within u 0 10000
 ·simp
 obtain ⟨h3, h4⟩ := En h1
 obtain ⟨h5, h6⟩ := En h2
 have e : CX (u - f) = u - f := Ij (by omega) (by omega)
 have e2 : (decide (f ≤ u) && decide (CX (u - f) ≤ 50)) = within (CX (u - f)) 0 50 := by
  rw [e]; unfold within
  rw [show decide (f ≤ u) = decide (0 ≤ u - f) from by rw [decide_eq_decide]; omega]
 rw [e2]
/-! ### Hashes -/
def md (n : Int) : Int := (CX (n.tmod 2147483647 + 2147483647)).tmod 2147483647
theorem aaR (n : Int) : Qt.c n 2147483647 = rI (md n) := by simp only [Qt.eq, IU, q0, qb]; rfl
theorem YX (n : Int) : Ou.c n 2147483647 = rI (md n) := by simp only [Ou.eq, Hv, q0, qb]; rfl
def kI (d : Int) (x : List U) : Int := (CX (CX (CX (d * 1000003) + md (v0 x)) + 13)).tmod 2147483647
def SI (xs : LL) : Int := xs.foldl kI 11
theorem aaK (xs : LL) (hx : xs.length ≤ 4611686018427387904) : Jy.c xs = rI (SI xs) := by
 rw [Jy.eq]
 refine LO (l0 := fun s i => Jy.l0 xs s i) (R := rI) (st := kI) (fun s => ?_) (fun i hi s => ?_) 11
 ·rw [Jy.Da, Dj (Nat.le_refl _)]; rfl
 ·show _ = _
  rw [Jy.Da, Di hi, DE hi, aaR, DJ (by omega)]; rfl
theorem YQ (xs : LL) (hx : xs.length ≤ 4611686018427387904) : Jd.c xs = rI (SI xs) := by
 rw [Jd.eq]
 refine LO (l0 := fun s i => Jd.l0 s xs _ i) (R := rI) (st := kI) (fun s => ?_) (fun i hi s => ?_) 11
 ·rw [Jd.Da, Dj (Nat.le_refl _)]; rfl
 ·show _ = _
  rw [Jd.Da, Di hi, DE hi, YX, DJ (by omega)]; rfl
def SW (k : Int) (xs : LL) : Int := SI ([[U.int k]] ++ xs ++ [[U.int k]])
theorem aaN (k : Int) (xs : LL) (hx : xs.length ≤ 1048576) : Qp.c k xs = rI (SW k xs) := by
 rw [Qp.eq, Mx (Dq (by simp; omega) (by simp; omega)), Mx (Dq (by simp; omega) (by simp; omega)), aaK _ (by simp; omega)]; rfl
theorem YU (k : Int) (xs : LL) (hx : xs.length ≤ 1048576) : Oo.c k xs = rI (SW k xs) := by
 have h : Et.c [[U.lst [[U.int k]]], [U.lst xs], [U.lst [[U.int k]]]] = rL ([[U.int k]] ++ xs ++ [[U.int k]]) := by
  have e1 : CX (0 + 1) = 1 := by decide
  have e2 : CX (1 + 1) = 2 := by decide
  have e3 : CX (2 + 1) = 3 := by decide
  have f1 : CX (1 + (xs.length : Int)) = ((xs.length + 1 : Nat) : Int) := by rw [show CX (1 + (xs.length : Int)) = 1 + (xs.length : Int) from Ij (by omega) (by omega)]; omega
  have f2 : CX (((xs.length + 1 : Nat) : Int) + 1) = ((xs.length + 2 : Nat) : Int) := DJ (by omega)
  have d1 : decide ((1 : Int) < 0) = false := by decide
  have d2 : decide ((((xs.length + 1 : Nat) : Int)) < 0) = false := decide_eq_false (by omega)
  have d3 : decide ((((xs.length + 2 : Nat) : Int)) < 0) = false := decide_eq_false (by omega)
  have l1 : Et.l1 [[U.lst [[U.int k]]], [U.lst xs], [U.lst [[U.int k]]]] 3 0 [] = rL ([[U.int k]] ++ xs ++ [[U.int k]]) := by
   rw [Et.HA]
   show Cu (room (0 + 1) 8) (Et.l1 _ 3 (CX (0 + 1)) ([] ++ [[U.int k]])) = _
   rw [Mx (by decide), e1, Et.HA]
   show Cu (room (1 + xs.length) 8) (Et.l1 _ 3 (CX (1 + 1)) ([] ++ [[U.int k]] ++ xs)) = _
   rw [Mx (Dq (by omega) (by omega)), e2, Et.HA]
   show Cu (room (([] ++ [[U.int k]] ++ xs).length + 1) 8) (Et.l1 _ 3 (CX (2 + 1)) ([] ++ [[U.int k]] ++ xs ++ [[U.int k]])) = _
   rw [Mx (Dq (by simp; omega) (by simp; omega)), e3, Et.HA]
   rfl
  rw [Et.eq, Et.Da]
  show (bif decide (CX (0 + 1) < 0) then none else Et.l0 _ (CX (0 + 1)) _ 3 (CX (0 + 1))) = _
  rw [e1, d1, cond_false, Et.Da]
  show (bif decide (CX (1 + (xs.length : Int)) < 0) then none else Et.l0 _ (CX (1 + (xs.length : Int))) _ 3 (CX (1 + 1))) = _
  rw [f1, d2, cond_false, e2, Et.Da]
  show (bif decide (CX (((xs.length + 1 : Nat) : Int) + 1) < 0) then none else Et.l0 _ (CX (((xs.length + 1 : Nat) : Int) + 1)) _ 3 (CX (2 + 1))) = _
  rw [f2, d3, cond_false, e3, Et.Da]
  show Cu (decide ((0 : Int) ≤ ((xs.length + 2 : Nat) : Int)) && room (((xs.length + 2 : Nat) : Int)).toNat 8) (Et.l1 _ 3 0 []) = _
  rw [Int.toNat_natCast, Mx (by rw [Dq (by omega) (by omega), decide_eq_true (by omega)]; rfl), l1]
 rw [Oo.eq, h]
 simp only [q0, ql]
 rw [YQ _ (by simp; omega)]; rfl
/-- A certificate is what it was marked as. -/
def NK (k s b y f u : Int) : Int := SW k [[U.int s], [U.int b], [U.int y], [U.int f], [U.int u]]
theorem aaP (k s b y f u m : Int) : Qr.c k s b y f u m = some ⟨[[.int s, .int b, .int y, .int f, .int u, .int (NK k s b y f u)]], []⟩ := by
 rw [Qr.eq, aaN _ _ (by simp)]; rfl
theorem YW (k s b y f u m : Int) : Ot.c k s b y f u m = some ⟨[[.int s, .int b, .int y, .int f, .int u, .int (NK k s b y f u)]], []⟩ := by
 rw [Ot.eq, YU _ _ (by simp)]; rfl
def JU (k s b y f u m now : Int) : Bool := RH s b y f u && (MJ f u now && decide (NK k s b y f u = m))
theorem aau (k s b y f u m now : Int) : Qh.c k s b y f u m now = rB (JU k s b y f u m now) := by
 simp only [Qh.eq, aas, VD, aaP, q0, qb, cB, Er]
 unfold JU
 congr 3
 show (decide (s = s) && (decide (b = b) && (decide (y = y) && (decide (f = f) && (decide (u = u) && (decide (NK k s b y f u = m) && true)))))) = _
 simp
theorem Yz (k s b y f u m now : Int) : Ob.c k s b y f u m now = rB (JU k s b y f u m now) := by
 simp only [Ob.eq, Yx, UA, YW, q0, qb, cB, Er]
 unfold JU
 congr 3
 show (decide (s = s) && (decide (b = b) && (decide (y = y) && (decide (f = f) && (decide (u = u) && (decide (NK k s b y f u = m) && true)))))) = _
 simp
end Go.Proofs.YtbanfmadialnkaaGreat.Eng
/- half -/
