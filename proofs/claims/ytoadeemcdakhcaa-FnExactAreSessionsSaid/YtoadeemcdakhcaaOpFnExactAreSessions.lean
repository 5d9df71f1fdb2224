/- What is read of the arguments of FnExactAreSessions is a value of the printed kinds. -/
import Derived.Test.YtoadeemcdakhcaaOpen
import Derived.Test.YtoadeemcdakhcaaPFnExactAreSessionsx3
import Derived.KernelRfl
namespace Go.Proofs.Ytoadeemcdakhcaa.PFnExactAreSessions
open Go.RowKit Go.Proofs.YtoadeemcdakhcaaW.PrintWords Go.Proofs.YtoadeemcdakhcaaW.PrintLast Go.Proofs.YtoadeemcdakhcaaW.PrintMore
set_option linter.unusedVariables false
def V77 (x : S77) : Prop := ((Lit.int .i64 x.f0).wf = true) ∧ ((Lit.int .i64 x.f1).wf = true) ∧ ((Lit.int .i64 x.f2).wf = true) ∧ ((Lit.int .i64 x.f3).wf = true) ∧ ((Lit.int .i64 x.f4).wf = true) ∧ ((Lit.int .i64 x.f5).wf = true)
theorem o77 (n : Nat) : OpenK.Opens Try.prog 77 k77 V77 n :=
  OpenK.Opens.lower (n := n + 1) (OpenK.opens_iso _ (fun a => (⟨a.1, a.2.1, a.2.2.1, a.2.2.2.1, a.2.2.2.2.1, a.2.2.2.2.2⟩ : S77)) (fun _ => rfl) V77 (fun a h => ⟨h.1, h.2.1, h.2.2.1, h.2.2.2.1, h.2.2.2.2.1, h.2.2.2.2.2⟩) (OpenK.opens_struct Try.underlying77 (by kernel_rfl) (OpenK.opensFs_cons rfl rfl (OpenK.opens_int Try.underlying3 (by kernel_rfl) _) (OpenK.opensFs_cons rfl rfl (OpenK.opens_int Try.underlying3 (by kernel_rfl) _) (OpenK.opensFs_cons rfl rfl (OpenK.opens_int Try.underlying3 (by kernel_rfl) _) (OpenK.opensFs_cons rfl rfl (OpenK.opens_int Try.underlying3 (by kernel_rfl) _) (OpenK.opensFs_cons rfl rfl (OpenK.opens_int Try.underlying3 (by kernel_rfl) _) (OpenK.opensFs_one rfl rfl (OpenK.opens_int Try.underlying3 (by kernel_rfl) _))))))))) (Nat.le_succ n)
def V79 (x : S79) : Prop := ((Lit.int .i64 x.f0).wf = true) ∧ ((Lit.int .i64 x.f1).wf = true) ∧ ((Lit.int .i64 x.f2).wf = true) ∧ (V77 x.f3) ∧ (True)
theorem o79 (n : Nat) : OpenK.Opens Try.prog 79 k79 V79 n :=
  OpenK.Opens.lower (n := n + 1) (OpenK.opens_iso _ (fun a => (⟨a.1, a.2.1, a.2.2.1, a.2.2.2.1, a.2.2.2.2⟩ : S79)) (fun _ => rfl) V79 (fun a h => ⟨h.1, h.2.1, h.2.2.1, h.2.2.2.1, h.2.2.2.2⟩) (OpenK.opens_struct Try.underlying79 (by kernel_rfl) (OpenK.opensFs_cons rfl rfl (OpenK.opens_int Try.underlying3 (by kernel_rfl) _) (OpenK.opensFs_cons rfl rfl (OpenK.opens_int Try.underlying3 (by kernel_rfl) _) (OpenK.opensFs_cons rfl rfl (OpenK.opens_int Try.underlying3 (by kernel_rfl) _) (OpenK.opensFs_cons rfl rfl (o77 _) (OpenK.opensFs_one rfl rfl (OpenK.opens_bool Try.underlying4 (by kernel_rfl) _)))))))) (Nat.le_succ n)
end Go.Proofs.Ytoadeemcdakhcaa.PFnExactAreSessions
