/- What the seat's tables say of its program holds; functions and loops obey their equations; what is told of a function holds of it. -/
import Derived.Test.YtbanfmadialnkaaGreatPrim
namespace Go.Proofs.YtbanfmadialnkaaGreat.Eng
open Go.RowKit
set_option maxRecDepth 100000
theorem VR : jZ Tryz.prog Db bf := Ct SK (L := Th) (by kernel_rfl)
theorem calm : ∀ (g : FuncId) (fn : Func), Tryz.prog.funcs[g]? = some fn → (fn.name == "runtime.NumGoroutine") = false := by
  have h : (Tryz.prog.funcs.toList.all fun fn => !(fn.name == "runtime.NumGoroutine")) = true := by kernel_rfl
  intro g fn hg
  have := List.all_eq_true.1 h fn (List.mem_of_getElem? (by rw [Array.getElem?_toList]; exact hg))
  simpa using this
theorem mixed : Tryz.prog.follows .mixedOrders = true := by kernel_rfl
theorem QG : ∃ p : Den × JT, p.1 = Hr.eT Tryz.prog ∧ xt Hr Tryz.prog p.1 p.2 := CL
noncomputable def dn : Den := QG.choose.1
noncomputable def TL : JT := QG.choose.2
theorem fix : xt Hr Tryz.prog dn TL := QG.choose_spec.2
noncomputable instance : Sm := ⟨dn, TL, fix⟩
theorem sound : Sound Tryz.prog Db sig dn := by
  have h : dn = Hr.eT Tryz.prog := QG.choose_spec.1
  rw [h]
  exact Hr.CO SK VR calm mixed Zg
end Go.Proofs.YtbanfmadialnkaaGreat.Eng
