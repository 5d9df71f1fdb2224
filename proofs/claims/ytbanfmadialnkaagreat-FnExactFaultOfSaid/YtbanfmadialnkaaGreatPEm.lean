/- Copies of emergencies are what is copied. -/
import Derived.Test.YtbanfmadialnkaaGreatPA2
import Derived.Test.YtbanfmadialnkaaGreatH
import Derived.Test.YtbanfmadialnkaaGreatPT
namespace Go.Proofs.YtbanfmadialnkaaGreat.Eng
open Go.RowKit
set_option linter.unusedVariables false
set_option linter.unusedSimpArgs false
set_option linter.unusedSectionVars false
set_option maxRecDepth 100000
variable [Sm]
theorem Mn {xs : List (List U)} {i : Nat} {a b c d : Int} {u : List (List U)} {s : Bool} (hi : i < xs.length) (hr : xs.getD i [] = [.int a, .int b, .int c, .int d, .af u, .bool s]) : u.length ≤ ai xs := by
 have h := ca (aZ hi (z := []))
 rw [hr] at h
 simp only [bh, bw] at h
 have := bl u
 omega
end Go.Proofs.YtbanfmadialnkaaGreat.Eng
/- half -/
