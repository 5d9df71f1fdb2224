/- What the seat's tables say of its program holds; functions and loops obey their equations; what is told of a function holds of it. -/
import Derived.Test.YtaghmjcfaplkiaaGreatPrim
namespace Go.Proofs.YtaghmjcfaplkiaaGreat.Eng
open Go.RowKit
set_option maxRecDepth 100000
theorem abu : kP Tryz.prog Fv bh:=EJ Qe (L:=YE) (by kernel_rfl)
theorem calm : ∀ (g : FuncId) (fn : Func), Tryz.prog.funcs[g]? = some fn → (fn.name == "runtime.NumGoroutine") = false := by
  have h : (Tryz.prog.funcs.toList.all fun fn => !(fn.name == "runtime.NumGoroutine")) = true := by kernel_rfl
  intro g fn hg
  have:=qQp.1 h fn (qQz (by rw [qYc]; exact hg))
  simpa using this
theorem mixed : Tryz.prog.follows .mixedOrders = true:=by kernel_rfl
theorem Wo : ∃ p : Den × JT,p.1 = Lw.cP Tryz.prog ∧ zp Lw Tryz.prog p.1 p.2:=Fb
noncomputable def dn : Den:=Wo.choose.1
noncomputable def Zn : JT:=Wo.choose.2
theorem fix : zp Lw Tryz.prog dn Zn:=Wo.choose_spec.2
noncomputable instance : Sm:=⟨dn,Zn,fix⟩
theorem sound : Sound Tryz.prog Fv sig dn:=by
  have h : dn = Lw.cP Tryz.prog:=Wo.choose_spec.1
  rw [h]
  exact Lw.Fg Qe abu calm mixed adN
end Go.Proofs.YtaghmjcfaplkiaaGreat.Eng
