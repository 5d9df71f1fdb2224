/- The functions' equations, written by a printer of ours (wip/bin/Sym.lean, emit2.py) for this claim. -/
import Derived.Test.YtbanfmadialnkaaGreatF0
import Derived.Test.YtbanfmadialnkaaGreatF1
import Derived.Test.YtbanfmadialnkaaGreatF2
import Derived.Test.YtbanfmadialnkaaGreatF3
namespace Go.Proofs.YtbanfmadialnkaaGreat.Eng
open Go.RowKit
set_option linter.unusedVariables false
set_option maxRecDepth 100000
set_option maxHeartbeats 0
variable [Sm]

end Go.Proofs.YtbanfmadialnkaaGreat.Eng
