/- The functions' equations, written by a printer of ours (wip/bin/Sym.lean, emit2.py) for this claim. -/
import Derived.Test.YteahcmobjegpnaaGreatF0
import Derived.Test.YteahcmobjegpnaaGreatF1
import Derived.Test.YteahcmobjegpnaaGreatF2
namespace Go.Proofs.YteahcmobjegpnaaGreat.Eng
open Go.RowKit
set_option linter.unusedVariables false
set_option maxRecDepth 100000
set_option maxHeartbeats 0
variable [Sm]

end Go.Proofs.YteahcmobjegpnaaGreat.Eng
