/- What a point answers; whether a session is still good. -/
import Derived.Test.YtbanfmadialnkaaGreatPA8
namespace Go.Proofs.YtbanfmadialnkaaGreat.Eng
open Go.RowKit
set_option linter.unusedVariables false
set_option linter.unusedSimpArgs false
set_option linter.unusedSectionVars false
set_option maxRecDepth 100000
variable [Sm]
/-- A point's lists are of a size. -/
structure JS (ps rs s rv sv : LL) : Prop where
 ps : ps.length ≤ 1048576
 rs : Da rs ≤ 1099511627776
 s : s.length ≤ 1048576
 rv : rv.length ≤ 1048576
 sv : sv.length ≤ 1048576
end Go.Proofs.YtbanfmadialnkaaGreat.Eng
/- half -/
