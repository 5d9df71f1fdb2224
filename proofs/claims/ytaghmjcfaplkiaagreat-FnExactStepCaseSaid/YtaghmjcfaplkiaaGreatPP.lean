/- A point's and a certificate's place; a point of the world is within bounds. -/
import Derived.Test.YtaghmjcfaplkiaaGreatPA9
import Derived.Test.YtaghmjcfaplkiaaGreatPT
namespace Go.Proofs.YtaghmjcfaplkiaaGreat.Eng
open Go.RowKit
set_option linter.unusedVariables false
set_option linter.unusedSimpArgs false
set_option linter.unusedSectionVars false
set_option maxRecDepth 100000
variable [Sm]
end Go.Proofs.YtaghmjcfaplkiaaGreat.Eng
/- half -/
