/- The seat's functions that are known: slices.Grow, Sort and Compact at []int. -/
import Derived.Test.YtbanfmadialnkaaGreatPrim1
namespace Go.Proofs.YtbanfmadialnkaaGreat.Eng
open Go.RowKit Go.Shelf
set_option maxRecDepth 100000
theorem Dc : bR Tryz.prog ao := Pa (by kernel_rfl) (by kernel_rfl)
theorem Wi : qC Tryz.prog ao 400 (.grow 3) := ⟨Hk (by kernel_rfl), Wj (T := ao) Tryz.Wk (i0 := (Tryz.prog.info? 3).get!) (by kernel_rfl) (by kernel_rfl) (by kernel_rfl) (by kernel_rfl) (by kernel_rfl)⟩
theorem Wl : qC Tryz.prog ao 447 .sort := ⟨Hk (by kernel_rfl), Wm Tryz.Wn⟩
theorem Wo : qC Tryz.prog ao 448 .compact := ⟨Hk (by kernel_rfl), Wp Tryz.Wq⟩
theorem Wh : ∀ g p, kG.kK g = some p → qC Tryz.prog kG.T g p := by
  intro g p h
  have h := Mg (l := DN) h
  simp only [DN, List.mem_cons, List.not_mem_nil, or_false, Prod.mk.injEq] at h
  rcases h with ⟨rfl, rfl⟩ | ⟨rfl, rfl⟩ | ⟨rfl, rfl⟩
  · exact Wi
  · exact Wl
  · exact Wo
end Go.Proofs.YtbanfmadialnkaaGreat.Eng
