/- The seat's functions that are known: slices.Grow, Sort and Compact at []int. -/
import Derived.Test.YtbanfmadialnkaaGreatPrim1
namespace Go.Proofs.YtbanfmadialnkaaGreat.Eng
open Go.RowKit Go.Shelf
set_option maxRecDepth 100000
theorem SK : aU Tryz.prog Db := CR (by kernel_rfl) (by kernel_rfl)
theorem WL : nB Tryz.prog Db 400 (.grow 3) := ⟨RV (by kernel_rfl), WM (T := Db) Tryz.YO (i0 := (Tryz.prog.info? 3).get!) (by kernel_rfl) (by kernel_rfl) (by kernel_rfl) (by kernel_rfl) (by kernel_rfl)⟩
theorem aa2 : nB Tryz.prog Db 447 .sort := ⟨RV (by kernel_rfl), aa3 Tryz.YM⟩
theorem VO : nB Tryz.prog Db 448 .compact := ⟨RV (by kernel_rfl), VP Tryz.YQ⟩
theorem Zg : ∀ g p, Hr.eP g = some p → nB Tryz.prog Hr.T g p := by
  intro g p h
  have h := TN (l := Si) h
  simp only [Si, List.mem_cons, List.not_mem_nil, or_false, Prod.mk.injEq] at h
  rcases h with ⟨rfl, rfl⟩ | ⟨rfl, rfl⟩ | ⟨rfl, rfl⟩
  · exact WL
  · exact aa2
  · exact VO
end Go.Proofs.YtbanfmadialnkaaGreat.Eng
