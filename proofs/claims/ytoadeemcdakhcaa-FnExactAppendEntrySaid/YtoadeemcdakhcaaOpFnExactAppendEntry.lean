/- What is read of the arguments of FnExactAppendEntry is a value of the printed kinds. -/
import Derived.Test.YtoadeemcdakhcaaOpen
import Derived.Test.YtoadeemcdakhcaaPFnExactAppendEntryx7
import Derived.KernelRfl
namespace Go.Proofs.Ytoadeemcdakhcaa.PFnExactAppendEntry
open Go.RowKit Go.Proofs.YtoadeemcdakhcaaW.PrintWords Go.Proofs.YtoadeemcdakhcaaW.PrintLast Go.Proofs.YtoadeemcdakhcaaW.PrintMore
set_option linter.unusedVariables false
def V25 (x : S25) : Prop := ((Lit.int .i64 x.f0).wf = true) ∧ ((Lit.int .i64 x.f1).wf = true) ∧ ((Lit.int .i64 x.f2).wf = true) ∧ ((Lit.int .i64 x.f3).wf = true) ∧ ((Lit.int .i64 x.f4).wf = true) ∧ ((Lit.int .i64 x.f5).wf = true) ∧ ((Lit.int .i64 x.f6).wf = true) ∧ ((Lit.int .i64 x.f7).wf = true) ∧ ((Lit.int .i64 x.f8).wf = true)
theorem o25 (n : Nat) : OpenK.Opens Try.prog 25 k25 V25 n :=
  OpenK.Opens.lower (n := n + 1) (OpenK.opens_iso _ (fun a => (⟨a.1, a.2.1, a.2.2.1, a.2.2.2.1, a.2.2.2.2.1, a.2.2.2.2.2.1, a.2.2.2.2.2.2.1, a.2.2.2.2.2.2.2.1, a.2.2.2.2.2.2.2.2⟩ : S25)) (fun _ => rfl) V25 (fun a h => ⟨h.1, h.2.1, h.2.2.1, h.2.2.2.1, h.2.2.2.2.1, h.2.2.2.2.2.1, h.2.2.2.2.2.2.1, h.2.2.2.2.2.2.2.1, h.2.2.2.2.2.2.2.2⟩) (OpenK.opens_struct Try.underlying25 (by kernel_rfl) (OpenK.opensFs_cons rfl rfl (OpenK.opens_int Try.underlying3 (by kernel_rfl) _) (OpenK.opensFs_cons rfl rfl (OpenK.opens_int Try.underlying3 (by kernel_rfl) _) (OpenK.opensFs_cons rfl rfl (OpenK.opens_int Try.underlying3 (by kernel_rfl) _) (OpenK.opensFs_cons rfl rfl (OpenK.opens_int Try.underlying3 (by kernel_rfl) _) (OpenK.opensFs_cons rfl rfl (OpenK.opens_int Try.underlying3 (by kernel_rfl) _) (OpenK.opensFs_cons rfl rfl (OpenK.opens_int Try.underlying3 (by kernel_rfl) _) (OpenK.opensFs_cons rfl rfl (OpenK.opens_int Try.underlying3 (by kernel_rfl) _) (OpenK.opensFs_cons rfl rfl (OpenK.opens_int Try.underlying3 (by kernel_rfl) _) (OpenK.opensFs_one rfl rfl (OpenK.opens_int Try.underlying3 (by kernel_rfl) _)))))))))))) (Nat.le_succ n)
end Go.Proofs.Ytoadeemcdakhcaa.PFnExactAppendEntry
