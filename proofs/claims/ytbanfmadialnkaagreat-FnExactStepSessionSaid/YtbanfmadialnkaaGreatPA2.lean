/- What functions over lists of facts, revocations, saved decisions compute. -/
import Derived.Test.YtbanfmadialnkaaGreatPA1
namespace Go.Proofs.YtbanfmadialnkaaGreat.Eng
open Go.RowKit
set_option linter.unusedVariables false
set_option linter.unusedSimpArgs false
set_option linter.unusedSectionVars false
set_option maxRecDepth 100000
variable [Sm]
def has (xs : LL) (v : Int) : Bool := xs.any fun x => decide (v0 x = v)
theorem aaJ (xs : LL) (hx : xs.length ≤ 4611686018427387904) (v : Int) : JA.c xs v = rB (has xs v) := by
 rw [JA.eq]
 refine (Wh (l0 := fun i => JA.l0 xs v i) (n := xs.length) (p := fun i => decide (v0 (xs.getD i []) = v)) ?_ fun i hi => ?_).trans (congrArg rB (RR xs [] fun x => decide (v0 x = v)))
 ·rw [JA.Da, Dj (Nat.le_refl _)]; rfl
 ·rw [JA.Da, Di hi, DE hi, DJ (by omega)]; rfl
theorem YS (xs : LL) (hx : xs.length ≤ 4611686018427387904) (v : Int) : Jw.c xs v = rI (pos (fun i => decide (v = v0 (xs.getD i []))) xs.length 0) := by
 rw [Jw.eq]
 refine Ks (l0 := fun i => Jw.l0 xs v _ i) (n := xs.length) (p := fun i => decide (v = v0 (xs.getD i []))) ?_ fun i hi => ?_
 ·rw [Jw.Da, Dj (Nat.le_refl _)]; rfl
 ·rw [Jw.Da, Di hi, DE hi, DJ (by omega)]; rfl
theorem Si {xs : LL} (q : List U → Bool) : decide (pos (fun i => q (xs.getD i [])) xs.length 0 ≥ 0) = xs.any q := by
 rw [UQ, ← List.range_eq_range', RR xs [] q]
theorem YP (xs : LL) (hx : xs.length ≤ 4611686018427387904) (v : Int) : Qd.c xs v = rB (has xs v) := by
 rw [Qd.eq, YS xs hx]
 show rB (decide (pos _ _ _ ≥ 0)) = _
 rw [Si fun x => decide (v = v0 x)]
 simp only [has, eq_comm]
theorem XO (xs : LL) (q : List U → Bool) : (pos (fun i => q (xs.getD i [])) xs.length 0 = -1 ∧ xs.find? q = none) ∨ ∃ j : Nat, pos (fun i => q (xs.getD i [])) xs.length 0 = (j : Int) ∧ j < xs.length ∧ xs.find? q = some (xs.getD j []) := by
 have key : ∀ k i, i + k = xs.length → (pos (fun i => q (xs.getD i [])) k i = -1 ∧ (xs.drop i).find? q = none) ∨ ∃ j : Nat, pos (fun i => q (xs.getD i [])) k i = (j : Int) ∧ j < xs.length ∧ (xs.drop i).find? q = some (xs.getD j []) := by
  intro k
  induction k with
  | zero => intro i h; left; exact ⟨rfl, by rw [List.drop_eq_nil_of_le (by omega)]; rfl⟩
  | succ k ih =>
   intro i h
   have hi : i < xs.length := by omega
   rw [Mt hi, List.find?_cons]
   unfold pos
   cases hq : q (xs.getD i [])
   ·simp only [Bool.false_eq_true, if_false]
    exact ih (i + 1) (by omega)
   ·right
    exact ⟨i, by simp, hi, rfl⟩
 simpa using key xs.length 0 (by omega)
/-- Where something is: -1 if nowhere. -/
def DC (xs : LL) (q : List U → Bool) : Int := pos (fun i => q (xs.getD i [])) xs.length 0
theorem Md (xs : LL) (q : List U → Bool) : (DC xs q = -1 ∧ xs.find? q = none) ∨ ∃ j : Nat, DC xs q = (j : Int) ∧ j < xs.length ∧ xs.find? q = some (xs.getD j []) := XO xs q
/-- When a serial was revoked. -/
def Na (xs : LL) (v : Int) : Int := match xs.find? fun x => decide (v0 x = v) with
 | some x => ui x 1
 | none => -1
theorem aaU (xs : LL) (hx : xs.length ≤ 4611686018427387904) (v : Int) : Jz.c xs v = rI (Na xs v) := by
 rw [Jz.eq]
 have key : ∀ i, i ≤ xs.length → Jz.l0 xs v (i : Int) = rI (Na (xs.drop i) v) := by
  refine down xs.length ?_ ?_
  ·rw [Jz.Da, Dj (Nat.le_refl _), List.drop_length]; rfl
  ·intro i hi h
   rw [Jz.Da, Di hi, DE hi, DJ (by omega), Mt hi, h]
   unfold Na
   rw [List.find?_cons]
   show (bif decide (v0 (xs.getD i []) = v) then _ else _) = _
   cases decide (v0 (xs.getD i []) = v) <;> rfl
 have := key 0 (Nat.zero_le _)
 rwa [List.drop_zero] at this
theorem Za (xs : LL) (hx : xs.length ≤ 4611686018427387904) (v : Int) : Ov.c xs v = rI (Na xs v) := by
 have : Ju.c xs v = rI (DC xs fun x => decide (v0 x = v)) := by
  rw [Ju.eq]
  refine Ks (l0 := fun i => Ju.l0 xs v _ i) (n := xs.length) (p := fun i => decide (v0 (xs.getD i []) = v)) ?_ fun i hi => ?_
  ·rw [Ju.Da, Dj (Nat.le_refl _)]; rfl
  ·rw [Ju.Da, Di hi, DE hi, DJ (by omega), RC.eq]; rfl
 rw [Ov.eq, this]
 unfold Na
 simp only [q0, qi]
 rcases Md xs fun x => decide (v0 x = v) with ⟨h1, h2⟩ | ⟨j, h1, h2, h3⟩
 ·rw [h1, h2]; rfl
 ·rw [h1, h3]
  show (bif decide ((j : Int) < 0) then _ else Cu (dk (j : Int) xs.length) (rI (ui (xs.getD j []) 1))) = _
  rw [decide_eq_false (by omega : ¬ ((j : Int) < 0)), DE h2]; rfl
def KS (xs : LL) (v now : Int) : Bool := within (Na xs v) 0 now
theorem aaV (xs : LL) (hx : xs.length ≤ 4611686018427387904) (v now : Int) : Qn.c xs v now = rB (KS xs v now) := by
 rw [Qn.eq, aaU _ hx]; simp only [q0, qi, cB, Er]; rfl
theorem Zb (xs : LL) (hx : xs.length ≤ 4611686018427387904) (v now : Int) : Om.c xs v now = rB (KS xs v now) := by
 rw [Om.eq, Za _ hx]; simp only [q0, qi, qb, Hv]; rfl
/-! ### Requests -/
def EA (p d g a o n : Int) : Bool := Io p 1 && (Io d 2 && (Io g 3 && (Io o 4 && (within a 0 5 && within n 0 10000))))
theorem Sa (p d g a o n : Int) : LD.c p d g a o n = rB (EA p d g a o n) := by simp only [LD.eq, TE, IU, Nb, q0, qb, cB, Er]; rfl
theorem Rv (p d g a o n : Int) : Lb.c p d g a o n = rB (EA p d g a o n) := by simp only [Lb.eq, SN, Hv, NY, q0, qb, cB, Er]; rfl
def Nc (a0 a1 a2 a3 a4 b0 b1 b2 b3 b4 : Int) : Bool := decide (a0 = b0) && (decide (a1 = b1) && (decide (a2 = b2) && (decide (a3 = b3) && decide (a4 = b4))))
theorem VA (a0 a1 a2 a3 a4 a5 b0 b1 b2 b3 b4 b5 : Int) : Ni.c a0 a1 a2 a3 a4 a5 b0 b1 b2 b3 b4 b5 = rB (Nc a0 a1 a2 a3 a4 b0 b1 b2 b3 b4) := by
 simp only [Ni.eq, KT.eq, q0]
 show rB (decide (a0 = b0) && (decide (a1 = b1) && (decide (a2 = b2) && (decide (a3 = b3) && (decide (a4 = b4) && (decide ((0 : Int) = 0) && true)))))) = _
 simp [Nc]
theorem Uw (a0 a1 a2 a3 a4 a5 b0 b1 b2 b3 b4 b5 : Int) : MD.c a0 a1 a2 a3 a4 a5 b0 b1 b2 b3 b4 b5 = rB (Nc a0 a1 a2 a3 a4 b0 b1 b2 b3 b4) := by
 simp only [MD.eq, KZ.eq, q0]
 show rB (decide (a0 = b0) && (decide (a1 = b1) && (decide (a2 = b2) && (decide (a3 = b3) && (decide (a4 = b4) && (decide (b5 = b5) && true)))))) = _
 simp [Nc]
/-- A saved decision's row answers a request. -/
def IA (p d g a o n : Int) (x : List U) : Bool := Nc (ui x 0) (ui x 1) (ui x 2) (ui x 3) (ui x 4) p d g a o && (decide (ui x 5 ≤ n) && decide (n ≤ ui x 7))
theorem aa2 (xs : LL) (hx : xs.length ≤ 4611686018427387904) (p d g a o n : Int) : IB.c xs p d g a o n = rI (DC xs (IA p d g a o n)) := by
 rw [IB.eq]
 refine Ks (l0 := fun i => IB.l0 xs i p d g a o n) (n := xs.length) (p := fun i => IA p d g a o n (xs.getD i [])) ?_ fun i hi => ?_
 ·rw [IB.Da, Dj (Nat.le_refl _)]; rfl
 ·rw [IB.Da, Di hi, DE hi, DJ (by omega)]
  simp only [VA, q0, qb, Gw, e2, cond_true]; rfl
theorem Zg (xs : LL) (hx : xs.length ≤ 4611686018427387904) (p d g a o n : Int) : Oe.c xs p d g a o n = rI (DC xs (IA p d g a o n)) := by
 have : Js.c xs p d g a o n = rI (DC xs (IA p d g a o n)) := by
  rw [Js.eq]
  refine Ks (l0 := fun i => Js.l0 xs p d g a o n _ i) (n := xs.length) (p := fun i => IA p d g a o n (xs.getD i [])) ?_ fun i hi => ?_
  ·rw [Js.Da, Dj (Nat.le_refl _)]; rfl
  ·rw [Js.Da, Di hi, DE hi, DJ (by omega), Ry.eq]
   simp only [Uw, q0, qb, Gw, cB, Er, cond_true]; rfl
 rw [Oe.eq, this]; rfl
/-! ### Facts -/
def Mw (k s v now DB : Int) (x : List U) : Bool := decide (ui x 0 = k) && (decide (ui x 1 = s) && (decide (ui x 2 = v) && Mu x now DB))
theorem aaH (xs : LL) (hx : xs.length ≤ 4611686018427387904) (k s v now DB : Int) : Ih.c xs k s v now DB = rI (DC xs (Mw k s v now DB)) := by
 rw [Ih.eq]
 refine Ks (l0 := fun i => Ih.l0 xs k s v now DB i) (n := xs.length) (p := fun i => Mw k s v now DB (xs.getD i [])) ?_ fun i hi => ?_
 ·rw [Ih.Da, Dj (Nat.le_refl _)]; rfl
 ·rw [Ih.Da, Di hi, DE hi, DJ (by omega)]
  simp only [TC, q0, qb, Gw, e2, cond_true]; rfl
theorem YM (xs : LL) (hx : xs.length ≤ 4611686018427387904) (k s v now DB : Int) : Od.c xs k s v now DB = rI (DC xs (Mw k s v now DB)) := by
 have : Jr.c xs k s v now DB = rI (DC xs (Mw k s v now DB)) := by
  rw [Jr.eq]
  refine Ks (l0 := fun i => Jr.l0 xs k s v now DB _ i) (n := xs.length) (p := fun i => Mw k s v now DB (xs.getD i [])) ?_ fun i hi => ?_
  ·rw [Jr.Da, Dj (Nat.le_refl _)]; rfl
  ·rw [Jr.Da, Di hi, DE hi, DJ (by omega), Rx.eq]
   simp only [SM, q0, qb, Gw, cB, Er, cond_true]; rfl
 rw [Od.eq, this]; rfl
def Nt (k s now DB : Int) (b : Int) (x : List U) : Int := bif decide (ui x 0 = k) && (decide (ui x 1 = s) && Mu x now DB) then max b (ui x 2) else b
def QU (xs : LL) (k s now DB : Int) : Int := xs.foldl (Nt k s now DB) (-1)
theorem aaQ (a b : Int) : Qs.c a b = rI (max a b) := by
 rw [Qs.eq]
 by_cases h : b > a
 ·rw [decide_eq_true h, Int.max_eq_right (by omega)]; rfl
 ·rw [decide_eq_false h, Int.max_eq_left (by omega)]; rfl
theorem aar (xs : LL) (hx : xs.length ≤ 4611686018427387904) (k s now DB : Int) : Hq.c xs k s now DB = rI (QU xs k s now DB) := by
 rw [Hq.eq]
 refine LO (l0 := fun b i => Hq.l0 xs k s now DB b i) (R := rI) (st := Nt k s now DB) (fun b => ?_) (fun i hi b => ?_) (-1)
 ·rw [Hq.Da, Dj (Nat.le_refl _)]; rfl
 ·rw [Hq.Da, Di hi, DE hi, DJ (by omega)]
  simp only [TC, aaQ, q0, qb, qi, Gw, cond_true]
  unfold Nt Mu
  simp only [gi, ui, Int.toNat_natCast]
  cases decide (((xs.getD i []).getD 0 U0).toInt = k) <;> cases decide (((xs.getD i []).getD 1 U0).toInt = s) <;> first | rfl | skip
  cases KD _ _ _ _ _ _ now DB <;> rfl
theorem Yw (xs : LL) (hx : xs.length ≤ 4611686018427387904) (k s now DB : Int) : Gy.c xs k s now DB = rI (QU xs k s now DB) := by
 rw [Gy.eq]
 refine LO (l0 := fun b i => Gy.l0 k s now DB b xs _ i) (R := rI) (st := Nt k s now DB) (fun b => ?_) (fun i hi b => ?_) (-1)
 ·rw [Gy.Da, Dj (Nat.le_refl _)]; rfl
 ·rw [Gy.Da, Di hi, DE hi, DJ (by omega)]
  simp only [SM, ZZ, q0, qb, qi, Gw, cond_true]
  unfold Nt Mu
  simp only [gi, ui, Int.toNat_natCast]
  cases decide (((xs.getD i []).getD 0 U0).toInt = k) <;> cases decide (((xs.getD i []).getD 1 U0).toInt = s) <;> first | rfl | skip
  cases KD _ _ _ _ _ _ now DB <;> rfl
end Go.Proofs.YtbanfmadialnkaaGreat.Eng
/- half -/
