/- The seat's functions that are known: none. -/
import Derived.Test.YtlkcpabdpmenpaaSem
namespace Go.Proofs.Ytlkcpabdpmenpaa.Eng
open Go.RowKit
set_option maxRecDepth 100000
theorem tabOk : TabOk Try.prog tabs := tabOk_of (by kernel_rfl) (by kernel_rfl)
theorem primOk : ∀ g p, conf.prim g = some p → PrimOk Try.prog conf.T g p := fun g p h => by cases h
end Go.Proofs.Ytlkcpabdpmenpaa.Eng
