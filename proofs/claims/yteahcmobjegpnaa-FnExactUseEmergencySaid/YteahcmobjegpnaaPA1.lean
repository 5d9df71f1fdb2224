/- What small functions compute: ranges, times, names, keys, facts, certificates, hashes. -/
import Derived.Test.YteahcmobjegpnaaPN
import Derived.Test.YteahcmobjegpnaaFAll
namespace Go.Proofs.Yteahcmobjegpnaa.Eng
open Go.RowKit
set_option linter.unusedVariables false
set_option linter.unusedSimpArgs false
set_option linter.unusedSectionVars false
set_option maxRecDepth 100000
variable [Sm]
abbrev v0 (x : List U) : Int := ui x 0
def within (a lo hi : Int) : Bool := decide (lo ≤ a) && decide (a ≤ hi)
theorem within_inv {a lo hi : Int} (h : within a lo hi = true) : lo ≤ a ∧ a ≤ hi := by simpa [within] using h
theorem s_in (a lo hi : Int) : spec_l1In.c a lo hi = rB (within a lo hi) := by simp only [spec_l1In.eq, cB, ctf]; rfl
theorem i_in (a lo hi : Int) : impl_InRange.c a lo hi = rB (within a lo hi) := by simp only [impl_InRange.eq, cB, ctf]; rfl
theorem s_time (a : Int) : spec_IsTime.c a = rB (within a 0 10000) := by simp only [spec_IsTime.eq, s_in, q0, qb]
theorem i_time (a : Int) : impl_IsTime.c a = rB (within a 0 10000) := by simp only [impl_IsTime.eq, i_in, q0, qb]
theorem s_name (a : Int) : spec_IsName.c a = rB (within a 10 49) := by simp only [spec_IsName.eq, s_in, q0, qb]
def hasKind (a k : Int) : Bool := within a 10 49 && decide (a.tdiv 10 = k)
theorem wrap_tdiv {a : Int} (h : within a 10 49 = true) : w64 (a.tdiv 10) = a.tdiv 10 := by
  obtain ⟨h1, h2⟩ := within_inv h
  rw [Int.tdiv_eq_ediv_of_nonneg (by omega), w64_id (by omega) (by omega)]
theorem s_kind (a k : Int) : spec_HasKind.c a k = rB (hasKind a k) := by
  simp only [spec_HasKind.eq, s_name, q0, qb, cB, ctf]
  unfold hasKind
  cases h : within a 10 49
  · rfl
  · rw [wrap_tdiv h]
def isWithin (a b t : Int) : Bool := within a 0 10000 && (within b 0 10000 && (within t 0 10000 && within t a b))
theorem s_within (a b t : Int) : spec_IsWithin.c a b t = rB (isWithin a b t) := by simp only [spec_IsWithin.eq, s_time, q0, qb, cB, ctf]; rfl
theorem i_within (a b t : Int) : impl_IsWithin.c a b t = rB (isWithin a b t) := by simp only [impl_IsWithin.eq, i_time, i_in, q0, qb, cB, ctf]; rfl
end Go.Proofs.Yteahcmobjegpnaa.Eng
