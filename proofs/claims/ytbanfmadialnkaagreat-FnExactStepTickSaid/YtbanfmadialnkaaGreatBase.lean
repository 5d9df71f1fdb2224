/- What the seat's tables say of its program holds; functions and loops obey their equations; what is told of a function holds of it. -/
import Derived.Test.YtbanfmadialnkaaGreatPrim
namespace Go.Proofs.YtbanfmadialnkaaGreat.Eng
open Go.RowKit
set_option maxRecDepth 100000
theorem WM : jZ Tryz.prog CZ bf := Ct RH (L := TQ) (by kernel_rfl)
theorem calm : ∀ (g : FuncId) (fn : Func), Tryz.prog.funcs[g]? = some fn → (fn.name == "runtime.NumGoroutine") = false := by
  have h : (Tryz.prog.funcs.toList.all fun fn => !(fn.name == "runtime.NumGoroutine")) = true := by kernel_rfl
  intro g fn hg
  have := List.all_eq_true.1 h fn (List.mem_of_getElem? (by rw [Array.getElem?_toList]; exact hg))
  simpa using this
theorem mixed : Tryz.prog.follows .mixedOrders = true := by kernel_rfl
theorem RD : ∃ p : Den × JT, p.1 = Iy.eT Tryz.prog ∧ xt Iy Tryz.prog p.1 p.2 := CL
noncomputable def dn : Den := RD.choose.1
noncomputable def Us : JT := RD.choose.2
theorem fix : xt Iy Tryz.prog dn Us := RD.choose_spec.2
noncomputable instance : Sm := ⟨dn, Us, fix⟩
theorem sound : Sound Tryz.prog CZ sig dn := by
  have h : dn = Iy.eT Tryz.prog := RD.choose_spec.1
  rw [h]
  exact Iy.CO RH WM calm mixed ZI
end Go.Proofs.YtbanfmadialnkaaGreat.Eng
