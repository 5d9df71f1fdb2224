/- What functions and loops mean: any meaning that obeys their equations. -/
import Derived.Test.YtbanfmadialnkaaGreatE38
import Derived.Test.YtbanfmadialnkaaGreatTab
import Derived.Test.YtbanfmadialnkaaGreatProg
namespace Go.Proofs.YtbanfmadialnkaaGreat.Eng
open Go.RowKit
class Sm where
  D : Den
  I : JT
  ok : xt IG Tryz.prog D I
theorem Dc {g : FuncId} {aH : List SV} {ae : List aa} {r : Sm → O} (h : ∀ (D : Den) (I : Iter) (f : Fix IG Tryz.prog D I), IG.body Tryz.prog D I g aH ae = r ⟨D, IG.oS Tryz.prog D I, I, f, rfl⟩) [S : Sm] : S.D g aH ae = r S := by
  obtain ⟨D, J, I, f, rfl⟩ := S
  exact (f.den g aH ae).trans (h D I f)
theorem Dh {g : FuncId} {ps : List TypeId} {path : List Nat} {st : St} {r : Sm → O} (h : ∀ (D : Den) (I : Iter) (f : Fix IG Tryz.prog D I), IG.AJ Tryz.prog D I g ps path st = r ⟨D, IG.oS Tryz.prog D I, I, f, rfl⟩) [S : Sm] : S.I g ps path st = r S := by
  obtain ⟨D, J, I, f, rfl⟩ := S
  exact (f.it g ps path st).trans (h D I f)
end Go.Proofs.YtbanfmadialnkaaGreat.Eng
