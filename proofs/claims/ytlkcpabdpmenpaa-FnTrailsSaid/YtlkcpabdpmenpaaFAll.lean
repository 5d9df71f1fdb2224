/- The functions' equations, written by a printer of ours (wip/bin/Sym.lean, emit2.py) for this claim. -/
import Derived.Test.YtlkcpabdpmenpaaF0
namespace Go.Proofs.Ytlkcpabdpmenpaa.Eng
open Go.RowKit
set_option linter.unusedVariables false
set_option maxRecDepth 100000
set_option maxHeartbeats 0
variable [Sm]

end Go.Proofs.Ytlkcpabdpmenpaa.Eng
