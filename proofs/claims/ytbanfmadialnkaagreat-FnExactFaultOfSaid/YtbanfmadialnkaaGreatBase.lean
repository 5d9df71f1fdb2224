/- What the seat's tables say of its program holds; functions and loops obey their equations; what is told of a function holds of it. -/
import Derived.Test.YtbanfmadialnkaaGreatPrim
namespace Go.Proofs.YtbanfmadialnkaaGreat.Eng
open Go.RowKit
set_option maxRecDepth 100000
theorem Wg : so Tryz.prog ao cb := Pd Dc (L := HQ) (by kernel_rfl)
theorem calm : ∀ (g : FuncId) (fn : Func), Tryz.prog.funcs[g]? = some fn → (fn.name == "runtime.NumGoroutine") = false := by
  have h : (Tryz.prog.funcs.toList.all fun fn => !(fn.name == "runtime.NumGoroutine")) = true := by kernel_rfl
  intro g fn hg
  have := List.all_eq_true.1 h fn (List.mem_of_getElem? (by rw [Array.getElem?_toList]; exact hg))
  simpa using this
theorem mixed : Tryz.prog.follows .mixedOrders = true := by kernel_rfl
theorem C8 : ∃ p : Den × JT, p.1 = kG.kS Tryz.prog ∧ By kG Tryz.prog p.1 p.2 := Pe
noncomputable def dn : Den := C8.choose.1
noncomputable def Mf : JT := C8.choose.2
theorem fix : By kG Tryz.prog dn Mf := C8.choose_spec.2
noncomputable instance : Sm := ⟨dn, Mf, fix⟩
theorem sound : Sound Tryz.prog ao sig dn := by
  have h : dn = kG.kS Tryz.prog := C8.choose_spec.1
  rw [h]
  exact kG.OW Dc Wg calm mixed Wh
end Go.Proofs.YtbanfmadialnkaaGreat.Eng
