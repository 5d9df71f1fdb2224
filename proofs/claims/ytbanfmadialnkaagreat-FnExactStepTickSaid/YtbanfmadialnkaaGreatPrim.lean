/- The seat's functions that are known: slices.Grow, Sort and Compact at []int. -/
import Derived.Test.YtbanfmadialnkaaGreatPrim1
namespace Go.Proofs.YtbanfmadialnkaaGreat.Eng
open Go.RowKit Go.Shelf
set_option maxRecDepth 100000
theorem RH : aU Tryz.prog CZ := CR (by kernel_rfl) (by kernel_rfl)
theorem XF : nB Tryz.prog CZ 400 (.grow 3) := ⟨Sz (by kernel_rfl), XG (T := CZ) Tryz.Zr (i0 := (Tryz.prog.info? 3).get!) (by kernel_rfl) (by kernel_rfl) (by kernel_rfl) (by kernel_rfl) (by kernel_rfl)⟩
theorem aa1 : nB Tryz.prog CZ 447 .sort := ⟨Sz (by kernel_rfl), aa2 Tryz.Zp⟩
theorem WK : nB Tryz.prog CZ 448 .compact := ⟨Sz (by kernel_rfl), WL Tryz.Zt⟩
theorem ZI : ∀ g p, Iy.eP g = some p → nB Tryz.prog Iy.T g p := by
  intro g p h
  have h := Ux (l := SN) h
  simp only [SN, List.mem_cons, List.not_mem_nil, or_false, Prod.mk.injEq] at h
  rcases h with ⟨rfl, rfl⟩ | ⟨rfl, rfl⟩ | ⟨rfl, rfl⟩
  · exact XF
  · exact aa1
  · exact WK
end Go.Proofs.YtbanfmadialnkaaGreat.Eng
