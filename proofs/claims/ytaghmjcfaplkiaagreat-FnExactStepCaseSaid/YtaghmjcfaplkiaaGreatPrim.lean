/- The seat's functions that are known: slices.Grow, Sort and Compact at []int. -/
import Derived.Test.YtaghmjcfaplkiaaGreatPrim1
namespace Go.Proofs.YtaghmjcfaplkiaaGreat.Eng
open Go.RowKit Go.Shelf
set_option maxRecDepth 100000
theorem Nu : aX Tryz.prog Fw := Fj (by kernel_rfl) (by kernel_rfl)
theorem We : oS Tryz.prog Fw 339 (.grow 3) := ⟨Sb (by kernel_rfl), Wf (T := Fw) Tryz.Xz (i0 := (Tryz.prog.info? 3).get!) (by kernel_rfl) (by kernel_rfl) (by kernel_rfl) (by kernel_rfl) (by kernel_rfl)⟩
theorem Ys : oS Tryz.prog Fw 373 .sort := ⟨Sb (by kernel_rfl), Yt Tryz.Xx⟩
theorem Vp : oS Tryz.prog Fw 374 .compact := ⟨Sb (by kernel_rfl), Vq Tryz.XB⟩
theorem XQ : ∀ g p, Kl.fy g = some p → oS Tryz.prog Kl.T g p := by
  intro g p h
  have h := Tz (l := Sl) h
  simp only [Sl, List.mem_cons, List.not_mem_nil, or_false, Prod.mk.injEq] at h
  rcases h with ⟨rfl, rfl⟩ | ⟨rfl, rfl⟩ | ⟨rfl, rfl⟩
  · exact We
  · exact Ys
  · exact Vp
end Go.Proofs.YtaghmjcfaplkiaaGreat.Eng
