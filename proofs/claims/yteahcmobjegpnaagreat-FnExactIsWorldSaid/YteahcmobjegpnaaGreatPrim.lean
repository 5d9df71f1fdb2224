/- The seat's functions that are known: slices.Grow, Sort and Compact at []int. -/
import Derived.Test.YteahcmobjegpnaaGreatPrim1
namespace Go.Proofs.YteahcmobjegpnaaGreat.Eng
open Go.RowKit Go.Shelf
set_option maxRecDepth 100000
theorem tabOk : TabOk Tryz.prog tabs := tabOk_of (by kernel_rfl) (by kernel_rfl)
theorem grow_it : PrimOk Tryz.prog tabs 283 (.grow 3) := ⟨is_there (by kernel_rfl), grow_to (T := tabs) Tryz.laysGrow (i0 := (Tryz.prog.info? 3).get!) (by kernel_rfl) (by kernel_rfl) (by kernel_rfl) (by kernel_rfl) (by kernel_rfl)⟩
theorem sort_it : PrimOk Tryz.prog tabs 333 .sort := ⟨is_there (by kernel_rfl), sort_to Tryz.lays189⟩
theorem compact_it : PrimOk Tryz.prog tabs 334 .compact := ⟨is_there (by kernel_rfl), compact_to Tryz.laysNm220⟩
theorem primOk : ∀ g p, conf.prim g = some p → PrimOk Tryz.prog conf.T g p := by
  intro g p h
  have h := mem_of_lookup (l := prims) h
  simp only [prims, List.mem_cons, List.not_mem_nil, or_false, Prod.mk.injEq] at h
  rcases h with ⟨rfl, rfl⟩ | ⟨rfl, rfl⟩ | ⟨rfl, rfl⟩
  · exact grow_it
  · exact sort_it
  · exact compact_it
end Go.Proofs.YteahcmobjegpnaaGreat.Eng
