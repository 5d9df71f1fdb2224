/- Sessions: started, reviewed. -/
import Derived.Test.YtaghmjcfaplkiaaGreatH
import Derived.Test.YtaghmjcfaplkiaaGreatPP
import Derived.Test.YtaghmjcfaplkiaaGreatPT
namespace Go.Proofs.YtaghmjcfaplkiaaGreat.Eng
open Go.RowKit
set_option linter.unusedVariables false
set_option linter.unusedSimpArgs false
set_option linter.unusedSectionVars false
set_option maxRecDepth 100000
variable [Sm]
/-! ### Copies are what they copy -/
theorem SU : ∀ (n : Nat) (xs : LL), WR Fw.ct 281 xs → Fx xs < n → KW n xs = xs
 | 0, xs, _, h => by omega
 | n + 1, xs, hw, h => by
  unfold KW
  refine (List.map_congr_left fun x hx => ?_).trans (List.map_id xs)
  obtain ⟨c0, c1, c2, c3, rfl, hc⟩ := Rm (hw.2 x hx)
  have hm := FX hx
  simp only [FP, FV] at hm
  show [U.int c0, U.int c1, U.int c2, U.lst (KW n c3)] = [U.int c0, U.int c1, U.int c2, U.lst c3]
  rw [SU n c3 hc (by omega)]
theorem RO {xs : LL} (hw : WR Fw.ct 283 xs) : Ik xs = xs := by
 unfold Ik
 refine (List.map_congr_left fun x hx => ?_).trans (List.map_id xs)
 obtain ⟨c0, c1, c2, c3, c4, c5, c6, rfl, hc⟩ := Rn (hw.2 x hx)
 have hm := FX hx
 simp only [FP, FV] at hm
 show [U.int c0, U.int c1, U.int c2, U.int c3, U.int c4, U.int c5, U.lst (KW (Fx xs) c6)] = _
 rw [SU _ c6 hc (by omega)]; rfl
end Go.Proofs.YtaghmjcfaplkiaaGreat.Eng
/- half -/
