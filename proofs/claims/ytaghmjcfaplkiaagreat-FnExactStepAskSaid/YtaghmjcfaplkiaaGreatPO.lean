/- Results that are there,and so: step by step. Of no program. -/
import Derived.Test.YtaghmjcfaplkiaaGreatPN
namespace Go.Proofs.YtaghmjcfaplkiaaGreat.Eng
open Go.RowKit
set_option linter.unusedVariables false
end Go.Proofs.YtaghmjcfaplkiaaGreat.Eng
/- half -/
