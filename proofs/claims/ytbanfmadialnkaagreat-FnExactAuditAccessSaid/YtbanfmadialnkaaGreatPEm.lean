/- Copies of emergencies are what is copied. -/
import Derived.Test.YtbanfmadialnkaaGreatPA2
import Derived.Test.YtbanfmadialnkaaGreatH
import Derived.Test.YtbanfmadialnkaaGreatPT
namespace Go.Proofs.YtbanfmadialnkaaGreat.Eng
open Go.RowKit
set_option linter.unusedVariables false
set_option linter.unusedSimpArgs false
set_option linter.unusedSectionVars false
set_option maxRecDepth 100000
variable [Sm]
theorem Vk {xs : List (List U)} {i : Nat} {a b c d : Int} {u : List (List U)} {s : Bool} (hi : i < xs.length) (hr : xs.getD i [] = [.int a, .int b, .int c, .int d, .CY u, .bool s]) : u.length ≤ Da xs := by
 have h := DJ (Du hi (z := []))
 rw [hr] at h
 simp only [Dz, DD] at h
 have := DA u
 omega
end Go.Proofs.YtbanfmadialnkaaGreat.Eng
/- half -/
