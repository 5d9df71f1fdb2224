/- The seat's functions that are known: slices.Grow,Sort and Compact at []int. -/
import Derived.Test.YtaghmjcfaplkiaaGreatPrim1
namespace Go.Proofs.YtaghmjcfaplkiaaGreat.Eng
open Go.RowKit Go.Shelf
set_option maxRecDepth 100000
theorem Qe : aX Tryz.prog Fv:=Fj (by kernel_rfl) (by kernel_rfl)
theorem acf : oS Tryz.prog Fv 339 (.grow 3):=⟨Xe (by kernel_rfl),acg (T:=Fv) Tryz.adx (i0:=(Tryz.prog.info? 3).get!) (by kernel_rfl) (by kernel_rfl) (by kernel_rfl) (by kernel_rfl) (by kernel_rfl)⟩
theorem aeT : oS Tryz.prog Fv 373 .sort:=⟨Xe (by kernel_rfl),aeU Tryz.adv⟩
theorem abq : oS Tryz.prog Fv 374 .compact:=⟨Xe (by kernel_rfl),abr Tryz.adz⟩
theorem adN : ∀ g p,Lw.fy g = some p → oS Tryz.prog Lw.T g p:=by
  intro g p h
  have h:=Zs (l:=Xu) h
  simp only [Xu,qQn,List.not_mem_nil,or_false,qXg] at h
  rcases h with ⟨rfl,rfl⟩ | ⟨rfl,rfl⟩ | ⟨rfl,rfl⟩
  · exact acf
  · exact aeT
  · exact abq
end Go.Proofs.YtaghmjcfaplkiaaGreat.Eng
