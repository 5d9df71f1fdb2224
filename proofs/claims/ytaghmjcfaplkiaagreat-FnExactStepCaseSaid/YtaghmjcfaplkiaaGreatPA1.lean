/- What small functions compute: ranges, times, names, keys, facts, certificates, hashes. -/
import Derived.Test.YtaghmjcfaplkiaaGreatPN
import Derived.Test.YtaghmjcfaplkiaaGreatFAll
namespace Go.Proofs.YtaghmjcfaplkiaaGreat.Eng
open Go.RowKit
set_option linter.unusedVariables false
set_option linter.unusedSimpArgs false
set_option linter.unusedSectionVars false
set_option maxRecDepth 100000
variable [Sm]
abbrev v0 (x : List U) : Int := ui x 0
def within (a lo hi : Int) : Bool := decide (lo ≤ a) && decide (a ≤ hi)
theorem LF {a lo hi : Int} (h : within a lo hi = true) : lo ≤ a ∧ a ≤ hi := by simpa [within] using h
theorem MD (a lo hi : Int) : Lq.c a lo hi = rB (within a lo hi) := by simp only [Lq.eq, cB, NQ]; rfl
theorem LK (a lo hi : Int) : KH.c a lo hi = rB (within a lo hi) := by simp only [KH.eq, cB, NQ]; rfl
theorem PI (a : Int) : Li.c a = rB (within a 0 10000) := by simp only [Li.eq, MD, q0, qb]
theorem Rc (a : Int) : Lt.c a = rB (within a 0 10000) := by simp only [Lt.eq, LK, q0, qb]
theorem Ym (a : Int) : PQ.c a = rB (within a 10 49) := by simp only [PQ.eq, MD, q0, qb]
def QJ (a k : Int) : Bool := within a 10 49 && decide (a.tdiv 10 = k)
theorem ZU {a : Int} (h : within a 10 49 = true) : Ft (a.tdiv 10) = a.tdiv 10 := by
 obtain ⟨h1, h2⟩ := LF h
 rw [Int.tdiv_eq_ediv_of_nonneg (by omega), Rt (by omega) (by omega)]
theorem Yi (a k : Int) : PK.c a k = rB (QJ a k) := by
 simp only [PK.eq, Ym, q0, qb, cB, NQ]
 unfold QJ
 cases h : within a 10 49
 ·rfl
 ·rw [ZU h]
def On (a b t : Int) : Bool := within a 0 10000 && (within b 0 10000 && (within t 0 10000 && within t a b))
theorem Yq (a b t : Int) : PU.c a b t = rB (On a b t) := by simp only [PU.eq, PI, q0, qb, cB, NQ]; rfl
theorem WY (a b t : Int) : Oh.c a b t = rB (On a b t) := by simp only [Oh.eq, Rc, LK, q0, qb, cB, NQ]; rfl
/-! ### Hashes -/
def md (n : Int) : Int := (Ft (n.tmod 2147483647 + 2147483647)).tmod 2147483647
theorem Yl (n : Int) : PV.c n 2147483647 = rI (md n) := by simp only [PV.eq, MD, q0, qb]; rfl
theorem WU (n : Int) : Oi.c n 2147483647 = rI (md n) := by simp only [Oi.eq, LK, q0, qb]; rfl
def lN (d : Int) (x : List U) : Int := (Ft (Ft (Ft (d * 1000003) + md (v0 x)) + 13)).tmod 2147483647
def Mw (xs : LL) : Int := xs.foldl lN 11
theorem Yh (xs : LL) (hx : xs.length ≤ 4611686018427387904) : Ki.c xs = rI (Mw xs) := by
 rw [Ki.eq]
 refine Ti (l0 := fun s i => Ki.l0 xs s i) (R := rI) (st := lN) (fun s => ?_) (fun i hi s => ?_) 11
 ·rw [Ki.Fy, FK (Nat.le_refl _)]; rfl
 ·show _ = _
  rw [Ki.Fy, FJ hi, GH hi, Yl, HS (by omega)]; rfl
theorem WM (xs : LL) (hx : xs.length ≤ 4611686018427387904) : Ke.c xs = rI (Mw xs) := by
 rw [Ke.eq]
 refine Ti (l0 := fun s i => Ke.l0 s xs _ i) (R := rI) (st := lN) (fun s => ?_) (fun i hi s => ?_) 11
 ·rw [Ke.Fy, FK (Nat.le_refl _)]; rfl
 ·show _ = _
  rw [Ke.Fy, FJ hi, GH hi, WU, HS (by omega)]; rfl
end Go.Proofs.YtaghmjcfaplkiaaGreat.Eng
/- half -/
