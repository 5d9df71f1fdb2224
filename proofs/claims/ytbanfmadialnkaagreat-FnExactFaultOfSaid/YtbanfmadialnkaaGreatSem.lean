/- What functions and loops mean: any meaning that obeys their equations. -/
import Derived.Test.YtbanfmadialnkaaGreatE38
import Derived.Test.YtbanfmadialnkaaGreatTab
import Derived.Test.YtbanfmadialnkaaGreatProg
namespace Go.Proofs.YtbanfmadialnkaaGreat.Eng
open Go.RowKit
class Sm where
  D : Den
  I : JT
  ok : By kG Tryz.prog D I
theorem aq {g : FuncId} {bu : List SV} {ax : List aj} {r : Sm → O} (h : ∀ (D : Den) (I : Iter) (f : Fix kG Tryz.prog D I), kG.body Tryz.prog D I g bu ax = r ⟨D, kG.uu Tryz.prog D I, I, f, rfl⟩) [S : Sm] : S.D g bu ax = r S := by
  obtain ⟨D, J, I, f, rfl⟩ := S
  exact (f.den g bu ax).trans (h D I f)
theorem aH {g : FuncId} {ps : List TypeId} {path : List Nat} {st : St} {r : Sm → O} (h : ∀ (D : Den) (I : Iter) (f : Fix kG Tryz.prog D I), kG.HP Tryz.prog D I g ps path st = r ⟨D, kG.uu Tryz.prog D I, I, f, rfl⟩) [S : Sm] : S.I g ps path st = r S := by
  obtain ⟨D, J, I, f, rfl⟩ := S
  exact (f.it g ps path st).trans (h D I f)
end Go.Proofs.YtbanfmadialnkaaGreat.Eng
