/- A point's and a certificate's place; a point of the world is within bounds. -/
import Derived.Test.YtbanfmadialnkaaGreatPA9
import Derived.Test.YtbanfmadialnkaaGreatPT
namespace Go.Proofs.YtbanfmadialnkaaGreat.Eng
open Go.RowKit
set_option linter.unusedVariables false
set_option linter.unusedSimpArgs false
set_option linter.unusedSectionVars false
set_option maxRecDepth 100000
variable [Sm]
theorem aaC (xs : LL) (hx : xs.length ≤ 4611686018427387904) (v : Int) : JF.c xs v = rI (DC xs fun x => decide (v0 x = v)) := by
 rw [JF.eq]
 refine Ks (l0 := fun i => JF.l0 xs v i) (n := xs.length) (p := fun i => decide (v0 (xs.getD i []) = v)) ?_ fun i hi => ?_
 ·rw [JF.Da, Dj (Nat.le_refl _)]; rfl
 ·rw [JF.Da, Di hi, DE hi, DJ (by omega)]; rfl
theorem YH (xs : LL) (hx : xs.length ≤ 4611686018427387904) (v : Int) : Ow.c xs v = rI (DC xs fun x => decide (v0 x = v)) := by
 rw [Ow.eq, JQ.eq]
 refine (congrArg (fun o : O => o.bind fun r0 => rI (r0.i 0)) (Ks (l0 := fun i => JQ.l0 xs v _ i) (n := xs.length) (p := fun i => decide (v0 (xs.getD i []) = v)) ?_ fun i hi => ?_)).trans rfl
 ·rw [JQ.Da, Dj (Nat.le_refl _)]; rfl
 ·rw [JQ.Da, Di hi, DE hi, DJ (by omega), RE.eq]; rfl
theorem aaf {ee : LL} (hc : Db ee ≤ 1099511627776) {j : Nat} (hj : j < ee.length) (hb : ∀ i ∈ [3, 6, 7, 9], (ul (ee.getD j []) i).length ≤ 1048576) : Mq (gl ee (j : Int) 3) (gl ee (j : Int) 5) (gl ee (j : Int) 6) (gl ee (j : Int) 7) (gl ee (j : Int) 9) := by
 have h5 := sub_lt hj 5
 exact ⟨hb 3 (by simp), by show Db (ul (ee.getD j []) 5) ≤ _; omega, hb 6 (by simp), hb 7 (by simp), hb 9 (by simp)⟩
theorem aag {ee : LL} (hp : WR CZ.ct 133 ee) (hc : Db ee ≤ 1048576) {j : Nat} (hj : j < ee.length) : Mq (gl ee (j : Int) 3) (gl ee (j : Int) 5) (gl ee (j : Int) 6) (gl ee (j : Int) 7) (gl ee (j : Int) 9) := by
 refine aaf (by omega) hj fun i hi => ?_
 have h1 := sub_lt hj i
 have h2 := Dk (ul (ee.getD j []) i)
 omega
end Go.Proofs.YtbanfmadialnkaaGreat.Eng
/- half -/
