/- What the seat's tables say of its program holds; functions and loops obey their equations; what is told of a function holds of it. -/
import Derived.Test.YtaghmjcfaplkiaaGreatPrim
namespace Go.Proofs.YtaghmjcfaplkiaaGreat.Eng
open Go.RowKit
set_option maxRecDepth 100000
theorem Vr : kP Tryz.prog Fw bh := EJ Nu (L := Tb) (by kernel_rfl)
theorem calm : ∀ (g : FuncId) (fn : Func), Tryz.prog.funcs[g]? = some fn → (fn.name == "runtime.NumGoroutine") = false := by
  have h : (Tryz.prog.funcs.toList.all fun fn => !(fn.name == "runtime.NumGoroutine")) = true := by kernel_rfl
  intro g fn hg
  have := List.all_eq_true.1 h fn (List.mem_of_getElem? (by rw [Array.getElem?_toList]; exact hg))
  simpa using this
theorem mixed : Tryz.prog.follows .mixedOrders = true := by kernel_rfl
theorem Ro : ∃ p : Den × JT, p.1 = Kl.cP Tryz.prog ∧ zp Kl Tryz.prog p.1 p.2 := Fb
noncomputable def dn : Den := Ro.choose.1
noncomputable def Tt : JT := Ro.choose.2
theorem fix : zp Kl Tryz.prog dn Tt := Ro.choose_spec.2
noncomputable instance : Sm := ⟨dn, Tt, fix⟩
theorem sound : Sound Tryz.prog Fw sig dn := by
  have h : dn = Kl.cP Tryz.prog := Ro.choose_spec.1
  rw [h]
  exact Kl.Fg Nu Vr calm mixed XQ
end Go.Proofs.YtaghmjcfaplkiaaGreat.Eng
