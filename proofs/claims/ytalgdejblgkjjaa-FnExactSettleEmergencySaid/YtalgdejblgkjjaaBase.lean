/- What the seat's tables say of its program holds; functions and loops obey their equations; what is told of a function holds of it. -/
import Derived.Test.YtalgdejblgkjjaaE38
import Derived.Test.YtalgdejblgkjjaaTab
import Derived.Test.YtalgdejblgkjjaaProg
namespace Go.Proofs.Ytalgdejblgkjjaa.Eng
open Go.RowKit
set_option maxRecDepth 100000
theorem tabOk : TabOk Try.prog tabs := tabOk_of (by kernel_rfl) (by kernel_rfl)
theorem eqOk : EqOk Try.prog tabs eqT := eqOk_of tabOk (L := eqL) (by kernel_rfl)
theorem calm : ∀ (g : FuncId) (fn : Func), Try.prog.funcs[g]? = some fn → (fn.name == "runtime.NumGoroutine") = false := by
  have h : (Try.prog.funcs.toList.all fun fn => !(fn.name == "runtime.NumGoroutine")) = true := by kernel_rfl
  intro g fn hg
  have := List.all_eq_true.1 h fn (List.mem_of_getElem? (by rw [Array.getElem?_toList]; exact hg))
  simpa using this
theorem mixed : Try.prog.follows .mixedOrders = true := by kernel_rfl
noncomputable def dn : Den := conf.denL Try.prog
theorem fix : Fix conf Try.prog dn iterL := fix_denL fun _ => rfl
theorem sound : Sound Try.prog tabs sig dn := conf.soundL tabOk eqOk calm mixed fun _ => rfl
end Go.Proofs.Ytalgdejblgkjjaa.Eng
