/- EntryInts gives what the reference gives, in memory of its own: the pure statement. -/
import Derived.Test.YtoadeemcdakhcaaHarFnExactEntryInts
import Derived.Test.YtoadeemcdakhcaaOpFnExactEntryInts
namespace Go.Proofs.Ytoadeemcdakhcaa.Pure
open Go.RowKit Go.Proofs.Ytoadeemcdakhcaa.PFnExactEntryInts Go.Proofs.YtoadeemcdakhcaaW.PrintWords Go.Proofs.YtoadeemcdakhcaaW.PrintLast Go.Proofs.YtoadeemcdakhcaaW.PrintMore PL
theorem FnExactEntryInts : ∀ (x0 : S25), V25 x0 → ∃ k, laws_FnExactEntryInts.f k x0.f0 x0.f1 x0.f2 x0.f3 x0.f4 x0.f5 x0.f6 x0.f7 x0.f8 = some true := by
  intro x _
  apply Ev.rounds
  unfold laws_FnExactEntryInts.f
  have he := eq_IntS [x.f0, x.f1, x.f2, x.f3, x.f4, x.f5, x.f6, x.f7] (by simp)
  have hm := mark_IntS [x.f0, x.f1, x.f2, x.f3, x.f4, x.f5, x.f6, x.f7] 1 (by simp) (by omega) (by omega)
  have hh := held_IntS 1 8 (by omega) (by omega) (by omega)
  exact Ev.bindE rfl (Ev.bindE rfl (Ev.bindE rfl (Ev.bindE rfl (Ev.bind he (Ev.pos rfl (Ev.bind hm (Ev.bind hh (Ev.neg (by omega) (Ev.pos rfl (Ev.bindE rfl (Ev.bindE rfl (Ev.bind he (Ev.pos rfl (Ev.bind hh (Ev.neg (by omega) (Ev.pos rfl (Ev.now _)))))))))))))))))
end Go.Proofs.Ytoadeemcdakhcaa.Pure
