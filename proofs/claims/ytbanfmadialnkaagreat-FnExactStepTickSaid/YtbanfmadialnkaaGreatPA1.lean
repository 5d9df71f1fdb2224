/- What small functions compute: ranges, times, names, keys, facts, certificates, hashes. -/
import Derived.Test.YtbanfmadialnkaaGreatPN
import Derived.Test.YtbanfmadialnkaaGreatFAll
namespace Go.Proofs.YtbanfmadialnkaaGreat.Eng
open Go.RowKit
set_option linter.unusedVariables false
set_option linter.unusedSimpArgs false
set_option linter.unusedSectionVars false
set_option maxRecDepth 100000
variable [Sm]
abbrev v0 (x : List U) : Int := ui x 0
def within (a lo hi : Int) : Bool := decide (lo ≤ a) && decide (a ≤ hi)
theorem EB {a lo hi : Int} (h : within a lo hi = true) : lo ≤ a ∧ a ≤ hi := by simpa [within] using h
theorem ach {a lo hi : Int} (h : lo ≤ a) (h' : a ≤ hi) : within a lo hi = true := by simp [within, h, h']
theorem IP (a lo hi : Int) : Ei.c a lo hi = rB (within a lo hi) := by simp only [Ei.eq, cB, En]; rfl
theorem Hr (a lo hi : Int) : DC.c a lo hi = rB (within a lo hi) := by simp only [DC.eq, cB, En]; rfl
theorem MJ (a : Int) : Ew.c a = rB (within a 0 10000) := by simp only [Ew.eq, IP, q0, qb]
theorem NL (a : Int) : IF.c a = rB (within a 0 10000) := by simp only [IF.eq, Hr, q0, qb]
theorem Vo (a : Int) : MN.c a = rB (within a 10 49) := by simp only [MN.eq, IP, q0, qb]
theorem Uj (a : Int) : LB.c a = rB (within a 10 49) := by simp only [LB.eq, Hr, q0, qb]
theorem aaC (a : Int) : PZ.c a = rB (within a 1 2147483646) := by simp only [PZ.eq, IP, q0, qb]
theorem Yz (a : Int) : NW.c a = rB (within a 1 2147483646) := by simp only [NW.eq, Hr, q0, qb]
def IA (a k : Int) : Bool := within a 10 49 && decide (a.tdiv 10 = k)
theorem VH {a : Int} (h : within a 10 49 = true) : CX (a.tdiv 10) = a.tdiv 10 := by
 obtain ⟨h1, h2⟩ := EB h
 rw [Int.tdiv_eq_ediv_of_nonneg (by omega), Ix (by omega) (by omega)]
theorem Tt (a k : Int) : IT.c a k = rB (IA a k) := by
 simp only [IT.eq, Vo, q0, qb, cB, En]
 unfold IA
 cases h : within a 10 49
 ·rfl
 ·rw [VH h]
theorem Su (a k : Int) : IE.c a k = rB (IA a k) := by
 simp only [IE.eq, Rh.eq, Uj, q0, qb]
 unfold IA
 cases h : within a 10 49
 ·rfl
 ·simp only [VH h]; rfl
def Mr (a b t : Int) : Bool := within a 0 10000 && (within b 0 10000 && (within t 0 10000 && within t a b))
theorem Vv (a b t : Int) : MQ.c a b t = rB (Mr a b t) := by simp only [MQ.eq, MJ, q0, qb, cB, En]; rfl
theorem Uq (a b t : Int) : Mj.c a b t = rB (Mr a b t) := by simp only [Mj.eq, NL, Hr, q0, qb, cB, En]; rfl
def IW (a b : Int) : Int := bif within a 0 10000 then (bif within b 0 10000 then (bif decide (a > b) then -1 else CX (b - a)) else -1) else -1
theorem aae (a b : Int) : PO.c a b = rI (IW a b) := by simp only [PO.eq, MJ, q0, qb, Lu, cI]; rfl
theorem Uc (a b : Int) : Me.c a b = rI (IW a b) := by simp only [Me.eq, NL, q0, qb, Lu, cI]; rfl
theorem VT (a b : Int) : IW a b = -1 ∨ (0 ≤ IW a b ∧ IW a b = b - a ∧ within a 0 10000 = true ∧ within b 0 10000 = true ∧ a ≤ b) := by
 unfold IW
 cases h1 : within a 0 10000
 ·exact .inl rfl
 cases h2 : within b 0 10000
 ·exact .inl rfl
 obtain ⟨h3, h4⟩ := EB h1
 obtain ⟨h5, h6⟩ := EB h2
 by_cases h : a > b
 ·rw [decide_eq_true h]; exact .inl rfl
 ·rw [decide_eq_false h]
  right
  have : CX (b - a) = b - a := Ix (by omega) (by omega)
  simp only [cond_true, cond_false, this]
  exact ⟨by omega, trivial, trivial, trivial, by omega⟩
theorem VU {a b : Int} (h1 : within a 0 10000 = true) (h2 : within b 0 10000 = true) (h : a ≤ b) : IW a b = b - a := by
 unfold IW
 obtain ⟨h3, h4⟩ := EB h1
 obtain ⟨h5, h6⟩ := EB h2
 rw [h1, h2, decide_eq_false (by omega)]
 exact Ix (by omega) (by omega)
def JE (a b m : Int) : Bool := decide (0 ≤ IW a b) && decide (IW a b ≤ m)
theorem Vm (a b m : Int) : MM.c a b m = rB (JE a b m) := by simp only [MM.eq, aae, q0, qi, cB, En]; rfl
theorem Yt (a b m : Int) : NU.c a b m = rB (JE a b m) := by
 simp only [NU.eq, Uc, q0, qi, cB, En]
 show rB (!decide (IW a b = -1) && decide (IW a b ≤ m)) = _
 unfold JE
 rcases VT a b with h | ⟨h, _⟩
 ·rw [h]; rfl
 ·rw [decide_eq_true h, decide_eq_false (show ¬ IW a b = -1 by omega)]; rfl
def TJ (k s v : Int) : Bool := bif decide (k = 1) then (IA s 1 && within v 0 5) else bif decide (k = 2) then (IA s 1 && IA v 2) else bif decide (k = 3) then (IA s 2 && within v 0 3) else (decide (k = 4) && (IA s 3 && within v 0 3))
def Ro (k s v i a u : Int) : Bool := TJ k s v && (within i 0 9 && (within a 0 10000 && (within u 0 10000 && decide (a ≤ u))))
theorem Yq (k s v i a u : Int) : NS.c k s v i a u = rB (Ro k s v i a u) := by
 simp only [NS.eq, Rl.eq, Su, Hr, NL, q0, qb, cB, En]; rfl
theorem aav (k s v i a u : Int) : PW.c k s v i a u = rB (Ro k s v i a u) := by
 simp only [PW.eq, Tt, IP, MJ, q0, qb, cB, En]
 unfold Ro TJ
 cases decide (k = 1) <;> cases decide (k = 2) <;> cases decide (k = 3) <;> cases decide (k = 4) <;> simp only [cond_true, cond_false, Bool.and_assoc, Bool.false_and, Bool.true_and]
def KB (k s v i a u now Dv : Int) : Bool := Ro k s v i a u && (Mr a u now && JE a now Dv)
theorem Ts (k s v i a u now Dv : Int) : LO.c k s v i a u now Dv = rB (KB k s v i a u now Dv) := by
 simp only [LO.eq, aav, Vv, Vm, q0, qb, cB, En]; rfl
theorem Ss (k s v i a u now Dv : Int) : Lz.c k s v i a u now Dv = rB (KB k s v i a u now Dv) := by
 simp only [Lz.eq, Yq, Uq, Uc, q0, qb, qi, cB, En]
 unfold KB
 cases hw : Mr a u now
 ·rfl
 ·unfold Mr at hw
  simp only [Bool.and_eq_true] at hw
  obtain ⟨h1, h2, h3, h4⟩ := hw
  obtain ⟨h5, h6⟩ := EB h4
  unfold JE
  rw [VU h1 h3 h5, decide_eq_true (show 0 ≤ now - a by omega)]; rfl
/-- The fact of a row. -/
def Ma (x : List U) (now Dv : Int) : Bool := KB (ui x 0) (ui x 1) (ui x 2) (ui x 3) (ui x 4) (ui x 5) now Dv
def Rn (s b k f u : Int) : Bool := within s 1 9999 && (within b 10 49 && (within k 1 2147483646 && (within f 0 10000 && (within u 0 10000 && within (CX (u - f)) 0 50))))
theorem Yd (s b k f u m : Int) : NQ.c s b k f u m = rB (Rn s b k f u) := by
 simp only [NQ.eq, Hr, Uj, Yz, NL, q0, qb, cB, En]; rfl
theorem aai (s b k f u m : Int) : PU.c s b k f u m = rB (Rn s b k f u) := by
 simp only [PU.eq, IP, Vo, aaC, MJ, q0, qb, cB, En]
 unfold Rn
 cases h1 : within f 0 10000
 ·simp
 cases h2 : within u 0 10000
 ·simp
 obtain ⟨h3, h4⟩ := EB h1
 obtain ⟨h5, h6⟩ := EB h2
 have e : CX (u - f) = u - f := Ix (by omega) (by omega)
 have e2 : (decide (f ≤ u) && decide (CX (u - f) ≤ 50)) = within (CX (u - f)) 0 50 := by
  rw [e]; unfold within
  rw [show decide (f ≤ u) = decide (0 ≤ u - f) from by rw [decide_eq_decide]; omega]
 rw [e2]
/-! ### Hashes -/
def md (n : Int) : Int := (CX (n.tmod 2147483647 + 2147483647)).tmod 2147483647
theorem aaH (n : Int) : Qe.c n 2147483647 = rI (md n) := by simp only [Qe.eq, IP, q0, qb]; rfl
theorem YD (n : Int) : Oa.c n 2147483647 = rI (md n) := by simp only [Oa.eq, Hr, q0, qb]; rfl
def kI (d : Int) (x : List U) : Int := (CX (CX (CX (d * 1000003) + md (v0 x)) + 13)).tmod 2147483647
def Sn (xs : LL) : Int := xs.foldl kI 11
theorem aaA (xs : LL) (hx : xs.length ≤ 4611686018427387904) : Js.c xs = rI (Sn xs) := by
 rw [Js.eq]
 refine Lv (l0 := fun s i => Js.l0 xs s i) (R := rI) (st := kI) (fun s => ?_) (fun i hi s => ?_) 11
 ·rw [Js.Da, Dj (Nat.le_refl _)]; rfl
 ·show _ = _
  rw [Js.Da, Di hi, Dw hi, aaH, DG (by omega)]; rfl
theorem Yw (xs : LL) (hx : xs.length ≤ 4611686018427387904) : IY.c xs = rI (Sn xs) := by
 rw [IY.eq]
 refine Lv (l0 := fun s i => IY.l0 s xs _ i) (R := rI) (st := kI) (fun s => ?_) (fun i hi s => ?_) 11
 ·rw [IY.Da, Dj (Nat.le_refl _)]; rfl
 ·show _ = _
  rw [IY.Da, Di hi, Dw hi, YD, DG (by omega)]; rfl
def SH (k : Int) (xs : LL) : Int := Sn ([[U.int k]] ++ xs ++ [[U.int k]])
theorem aaD (k : Int) (xs : LL) (hx : xs.length ≤ 1048576) : Qa.c k xs = rI (SH k xs) := by
 rw [Qa.eq, Mc (Dr (by simp; omega) (by simp; omega)), Mc (Dr (by simp; omega) (by simp; omega)), aaA _ (by simp; omega)]; rfl
theorem YA (k : Int) (xs : LL) (hx : xs.length ≤ 1048576) : NX.c k xs = rI (SH k xs) := by
 have h : Er.c [[U.lst [[U.int k]]], [U.lst xs], [U.lst [[U.int k]]]] = rL ([[U.int k]] ++ xs ++ [[U.int k]]) := by
  have e1 : CX (0 + 1) = 1 := by decide
  have e2 : CX (1 + 1) = 2 := by decide
  have e3 : CX (2 + 1) = 3 := by decide
  have f1 : CX (1 + (xs.length : Int)) = ((xs.length + 1 : Nat) : Int) := by rw [show CX (1 + (xs.length : Int)) = 1 + (xs.length : Int) from Ix (by omega) (by omega)]; omega
  have f2 : CX (((xs.length + 1 : Nat) : Int) + 1) = ((xs.length + 2 : Nat) : Int) := DG (by omega)
  have d1 : decide ((1 : Int) < 0) = false := by decide
  have d2 : decide ((((xs.length + 1 : Nat) : Int)) < 0) = false := decide_eq_false (by omega)
  have d3 : decide ((((xs.length + 2 : Nat) : Int)) < 0) = false := decide_eq_false (by omega)
  have l1 : Er.l1 [[U.lst [[U.int k]]], [U.lst xs], [U.lst [[U.int k]]]] 3 0 [] = rL ([[U.int k]] ++ xs ++ [[U.int k]]) := by
   rw [Er.Hw]
   show Cu (room (0 + 1) 8) (Er.l1 _ 3 (CX (0 + 1)) ([] ++ [[U.int k]])) = _
   rw [Mc (by decide), e1, Er.Hw]
   show Cu (room (1 + xs.length) 8) (Er.l1 _ 3 (CX (1 + 1)) ([] ++ [[U.int k]] ++ xs)) = _
   rw [Mc (Dr (by omega) (by omega)), e2, Er.Hw]
   show Cu (room (([] ++ [[U.int k]] ++ xs).length + 1) 8) (Er.l1 _ 3 (CX (2 + 1)) ([] ++ [[U.int k]] ++ xs ++ [[U.int k]])) = _
   rw [Mc (Dr (by simp; omega) (by simp; omega)), e3, Er.Hw]
   rfl
  rw [Er.eq, Er.Da]
  show (bif decide (CX (0 + 1) < 0) then none else Er.l0 _ (CX (0 + 1)) _ 3 (CX (0 + 1))) = _
  rw [e1, d1, cond_false, Er.Da]
  show (bif decide (CX (1 + (xs.length : Int)) < 0) then none else Er.l0 _ (CX (1 + (xs.length : Int))) _ 3 (CX (1 + 1))) = _
  rw [f1, d2, cond_false, e2, Er.Da]
  show (bif decide (CX (((xs.length + 1 : Nat) : Int) + 1) < 0) then none else Er.l0 _ (CX (((xs.length + 1 : Nat) : Int) + 1)) _ 3 (CX (2 + 1))) = _
  rw [f2, d3, cond_false, e3, Er.Da]
  show Cu (decide ((0 : Int) ≤ ((xs.length + 2 : Nat) : Int)) && room (((xs.length + 2 : Nat) : Int)).toNat 8) (Er.l1 _ 3 0 []) = _
  rw [Int.toNat_natCast, Mc (by rw [Dr (by omega) (by omega), decide_eq_true (by omega)]; rfl), l1]
 rw [NX.eq, h]
 simp only [q0, ql]
 rw [Yw _ (by simp; omega)]; rfl
/-- A certificate is what it was marked as. -/
def Nw (k s b y f u : Int) : Int := SH k [[U.int s], [U.int b], [U.int y], [U.int f], [U.int u]]
theorem aaF (k s b y f u m : Int) : Qc.c k s b y f u m = some ⟨[[.int s, .int b, .int y, .int f, .int u, .int (Nw k s b y f u)]], []⟩ := by
 rw [Qc.eq, aaD _ _ (by simp)]; rfl
theorem YC (k s b y f u m : Int) : NZ.c k s b y f u m = some ⟨[[.int s, .int b, .int y, .int f, .int u, .int (Nw k s b y f u)]], []⟩ := by
 rw [NZ.eq, YA _ _ (by simp)]; rfl
def Kg (k s b y f u m now : Int) : Bool := Rn s b y f u && (Mr f u now && decide (Nw k s b y f u = m))
theorem aaj (k s b y f u m now : Int) : PQ.c k s b y f u m now = rB (Kg k s b y f u m now) := by
 simp only [PQ.eq, aai, Vv, aaF, q0, qb, cB, En]
 unfold Kg
 congr 3
 show (decide (s = s) && (decide (b = b) && (decide (y = y) && (decide (f = f) && (decide (u = u) && (decide (Nw k s b y f u = m) && true)))))) = _
 simp
theorem Ye (k s b y f u m now : Int) : NM.c k s b y f u m now = rB (Kg k s b y f u m now) := by
 simp only [NM.eq, Yd, Uq, YC, q0, qb, cB, En]
 unfold Kg
 congr 3
 show (decide (s = s) && (decide (b = b) && (decide (y = y) && (decide (f = f) && (decide (u = u) && (decide (Nw k s b y f u = m) && true)))))) = _
 simp
end Go.Proofs.YtbanfmadialnkaaGreat.Eng
/- half -/
