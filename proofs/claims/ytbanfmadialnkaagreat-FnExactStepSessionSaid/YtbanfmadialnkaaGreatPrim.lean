/- The seat's functions that are known: slices.Grow, Sort and Compact at []int. -/
import Derived.Test.YtbanfmadialnkaaGreatPrim1
namespace Go.Proofs.YtbanfmadialnkaaGreat.Eng
open Go.RowKit Go.Shelf
set_option maxRecDepth 100000
theorem Nn : aU Tryz.prog CZ := CR (by kernel_rfl) (by kernel_rfl)
theorem XS : nB Tryz.prog CZ 400 (.grow 3) := ⟨SO (by kernel_rfl), XT (T := CZ) Tryz.ZL (i0 := (Tryz.prog.info? 3).get!) (by kernel_rfl) (by kernel_rfl) (by kernel_rfl) (by kernel_rfl) (by kernel_rfl)⟩
theorem aa9 : nB Tryz.prog CZ 447 .sort := ⟨SO (by kernel_rfl), aba Tryz.ZJ⟩
theorem WZ : nB Tryz.prog CZ 448 .compact := ⟨SO (by kernel_rfl), Xa Tryz.ZN⟩
theorem aad : ∀ g p, IG.eP g = some p → nB Tryz.prog IG.T g p := by
  intro g p h
  have h := UH (l := Tc) h
  simp only [Tc, List.mem_cons, List.not_mem_nil, or_false, Prod.mk.injEq] at h
  rcases h with ⟨rfl, rfl⟩ | ⟨rfl, rfl⟩ | ⟨rfl, rfl⟩
  · exact XS
  · exact aa9
  · exact WZ
end Go.Proofs.YtbanfmadialnkaaGreat.Eng
