/- What functions and loops mean: any meaning that obeys their equations. -/
import Derived.Test.YtlkcpabdpmenpaaE38
import Derived.Test.YtlkcpabdpmenpaaTab
import Derived.Test.YtlkcpabdpmenpaaProg
namespace Go.Proofs.Ytlkcpabdpmenpaa.Eng
open Go.RowKit
class Sm where
  D : Den
  I : JT
  ok : FixJ conf Try.prog D I
theorem dnE {g : FuncId} {svs : List SV} {rts : List Root} {r : Sm → O} (h : ∀ (D : Den) (I : Iter) (f : Fix conf Try.prog D I), conf.body Try.prog D I g svs rts = r ⟨D, conf.loopI Try.prog D I, I, f, rfl⟩) [S : Sm] : S.D g svs rts = r S := by
  obtain ⟨D, J, I, f, rfl⟩ := S
  exact (f.den g svs rts).trans (h D I f)
theorem itE {g : FuncId} {ps : List (TypeId × Bool)} {path : List Nat} {st : St} {r : Sm → O} (h : ∀ (D : Den) (I : Iter) (f : Fix conf Try.prog D I), conf.loopS Try.prog D I g ps path st = r ⟨D, conf.loopI Try.prog D I, I, f, rfl⟩) [S : Sm] : S.I g ps path st = r S := by
  obtain ⟨D, J, I, f, rfl⟩ := S
  exact (f.it g ps path st).trans (h D I f)
end Go.Proofs.Ytlkcpabdpmenpaa.Eng
