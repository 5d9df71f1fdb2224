/- What the seat's tables say of its program holds; functions and loops obey their equations; what is told of a function holds of it. -/
import Derived.Test.YtlkcpabdpmenpaaPrim
namespace Go.Proofs.Ytlkcpabdpmenpaa.Eng
open Go.RowKit
set_option maxRecDepth 100000
theorem eqOk : EqOk Try.prog tabs eqT := eqOk_of tabOk (L := eqL) (by kernel_rfl)
theorem calm : ∀ (g : FuncId) (fn : Func), Try.prog.funcs[g]? = some fn → (fn.name == "runtime.NumGoroutine") = false := by
  have h : (Try.prog.funcs.toList.all fun fn => !(fn.name == "runtime.NumGoroutine")) = true := by kernel_rfl
  intro g fn hg
  have := List.all_eq_true.1 h fn (List.mem_of_getElem? (by rw [Array.getElem?_toList]; exact hg))
  simpa using this
theorem mixed : Try.prog.follows .mixedOrders = true := by kernel_rfl
theorem sealed : ∃ p : Den × JT, p.1 = conf.denL Try.prog ∧ FixJ conf Try.prog p.1 p.2 := sealed_of
noncomputable def dn : Den := sealed.choose.1
noncomputable def iterJ : JT := sealed.choose.2
theorem fix : FixJ conf Try.prog dn iterJ := sealed.choose_spec.2
noncomputable instance : Sm := ⟨dn, iterJ, fix⟩
theorem sound : Sound Try.prog tabs sig dn := by
  have h : dn = conf.denL Try.prog := sealed.choose_spec.1
  rw [h]
  exact conf.soundL tabOk eqOk calm mixed primOk
end Go.Proofs.Ytlkcpabdpmenpaa.Eng
