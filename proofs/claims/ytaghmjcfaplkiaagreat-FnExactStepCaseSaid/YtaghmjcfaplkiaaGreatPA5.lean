/- Roles and conditions, as the program has them. -/
import Derived.Test.YtaghmjcfaplkiaaGreatPA4
namespace Go.Proofs.YtaghmjcfaplkiaaGreat.Eng
open Go.RowKit
set_option linter.unusedVariables false
set_option linter.unusedSimpArgs false
set_option linter.unusedSectionVars false
set_option maxRecDepth 100000
variable [Sm]
end Go.Proofs.YtaghmjcfaplkiaaGreat.Eng
/- half -/
