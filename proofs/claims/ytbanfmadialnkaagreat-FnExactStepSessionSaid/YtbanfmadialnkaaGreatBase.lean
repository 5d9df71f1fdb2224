/- What the seat's tables say of its program holds; functions and loops obey their equations; what is told of a function holds of it. -/
import Derived.Test.YtbanfmadialnkaaGreatPrim
namespace Go.Proofs.YtbanfmadialnkaaGreat.Eng
open Go.RowKit
set_option maxRecDepth 100000
theorem Xc : jZ Tryz.prog CZ bf := Ct Nn (L := Ub) (by kernel_rfl)
theorem calm : ∀ (g : FuncId) (fn : Func), Tryz.prog.funcs[g]? = some fn → (fn.name == "runtime.NumGoroutine") = false := by
  have h : (Tryz.prog.funcs.toList.all fun fn => !(fn.name == "runtime.NumGoroutine")) = true := by kernel_rfl
  intro g fn hg
  have := List.all_eq_true.1 h fn (List.mem_of_getElem? (by rw [Array.getElem?_toList]; exact hg))
  simpa using this
theorem mixed : Tryz.prog.follows .mixedOrders = true := by kernel_rfl
theorem Sb : ∃ p : Den × JT, p.1 = IG.eT Tryz.prog ∧ xt IG Tryz.prog p.1 p.2 := CL
noncomputable def dn : Den := Sb.choose.1
noncomputable def UC : JT := Sb.choose.2
theorem fix : xt IG Tryz.prog dn UC := Sb.choose_spec.2
noncomputable instance : Sm := ⟨dn, UC, fix⟩
theorem sound : Sound Tryz.prog CZ sig dn := by
  have h : dn = IG.eT Tryz.prog := Sb.choose_spec.1
  rw [h]
  exact IG.CO Nn Xc calm mixed aad
end Go.Proofs.YtbanfmadialnkaaGreat.Eng
