/- What functions and loops mean: any meaning that obeys their equations. -/
import Derived.Test.YtaghmjcfaplkiaaGreatE38
import Derived.Test.YtaghmjcfaplkiaaGreatTab
import Derived.Test.YtaghmjcfaplkiaaGreatProg
namespace Go.Proofs.YtaghmjcfaplkiaaGreat.Eng
open Go.RowKit
class Sm where
  D : Den
  I : JT
  ok : zp Lw Tryz.prog D I
theorem Fz {g : FuncId} {aN : List SV} {af : List aa} {r : Sm → O} (h : ∀ (D : Den) (I : Iter) (f : Fix Lw Tryz.prog D I),Lw.body Tryz.prog D I g aN af = r ⟨D,Lw.jM Tryz.prog D I,I,f,rfl⟩) [S : Sm] : S.D g aN af = r S:=by
  obtain ⟨D,J,I,f,rfl⟩:=S
  exact (f.den g aN af).trans (h D I f)
theorem FM {g : FuncId} {ps : List (TypeId × Bool)} {path : List Nat} {st : St} {r : Sm → O} (h : ∀ (D : Den) (I : Iter) (f : Fix Lw Tryz.prog D I),Lw.qv Tryz.prog D I g ps path st = r ⟨D,Lw.jM Tryz.prog D I,I,f,rfl⟩) [S : Sm] : S.I g ps path st = r S:=by
  obtain ⟨D,J,I,f,rfl⟩:=S
  exact (f.it g ps path st).trans (h D I f)
end Go.Proofs.YtaghmjcfaplkiaaGreat.Eng
