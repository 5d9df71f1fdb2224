/- The functions' equations,written by a printer of ours (wip/bin/Sym.lean,emit2.py) for this claim. -/
import Derived.Test.YtaghmjcfaplkiaaGreatF0
import Derived.Test.YtaghmjcfaplkiaaGreatF1
import Derived.Test.YtaghmjcfaplkiaaGreatF2
import Derived.Test.YtaghmjcfaplkiaaGreatF3
namespace Go.Proofs.YtaghmjcfaplkiaaGreat.Eng
open Go.RowKit
set_option linter.unusedVariables false
set_option maxRecDepth 100000
set_option maxHeartbeats 0
variable [Sm]

end Go.Proofs.YtaghmjcfaplkiaaGreat.Eng
